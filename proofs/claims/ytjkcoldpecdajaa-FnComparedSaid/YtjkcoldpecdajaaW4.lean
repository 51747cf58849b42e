/- Texts of ours, joined: T26 T27 T28 T29. -/
import Derived.Test.YtjkcoldpecdajaaW3
set_option linter.unusedVariables false
set_option linter.unusedSimpArgs false
namespace Go.Proofs.Ytjkcoldpecdajaa
open Go.Abs Go.IntWalk
set_option maxRecDepth 100000
attribute [local go_sem] eI eGs eC eB eBs take_map take_cG2 len_cG2
/-- Gates, the same number for each place; 'so' is the wire so far. -/
def bldG (one : Int → Int → Int → Int → List Gate) (cnt : Int) : Int → Int → List (Int × Int) → List Gate
  | _, _, [] => []
  | n, so, (x, y) :: l => one n x y so ++ bldG one cnt (n + cnt) (n + cnt - 1) l
theorem bldG_len {one : Int → Int → Int → Int → List Gate} {cnt : Nat} (h : ∀ n x y so, (one n x y so).length = cnt) : ∀ (l : List (Int × Int)) (c n so : Int), (bldG one c n so l).length = cnt * l.length
  | [], c, n, so => by simp [bldG]
  | (x, y) :: l, c, n, so => by rw [bldG, List.length_append, h, bldG_len h l, List.length_cons, Nat.mul_succ, Nat.add_comm]
def less1 (n x y so : Int) : List Gate := [(5, x, y), (2, n, 0), (3, n + 1, so), (2, x, 0), (3, n + 3, y), (4, n + 2, n + 4)]
def eq1 (n x y so : Int) : List Gate := [(5, x, y), (2, n, 0), (3, n + 1, so)]
theorem less1_len (n x y so : Int) : (less1 n x y so).length = 6 := rfl
theorem eq1_len (n x y so : Int) : (eq1 n x y so).length = 3 := rfl
/-- The gates of a comparison, the first of which has wire 'n'. -/
def lessG (n : Int) (l : List (Int × Int)) : List Gate := (1, 0, 0) :: bldG less1 6 (n + 1) n l
def eqG (n : Int) (l : List (Int × Int)) : List Gate := (1, 1, 0) :: bldG eq1 3 (n + 1) n l
theorem lessG_len (n : Int) (l : List (Int × Int)) : (lessG n l).length = 1 + 6 * l.length := by rw [lessG, List.length_cons, bldG_len less1_len, Nat.add_comm]
theorem eqG_len (n : Int) (l : List (Int × Int)) : (eqG n l).length = 1 + 3 * l.length := by rw [eqG, List.length_cons, bldG_len eq1_len, Nat.add_comm]
theorem k_putLess {v gv : Nat} {ins : Int} {gs : List Gate} {os a b : List Int} (hab : a.length = b.length) (ha : a.length ≤ 1000) (hi : -100 ≤ ins) (hi2 : ins ≤ 100) (hl : gs.length ≤ 10000) :
    ACall Try.prog 93 [.ptr 1000000 v 0, eI a, eI b] (hp [.cells v 27 1 [I64 ins, .ref 1000001 gv 0 gs.length, eI os], .cells gv 119 3 (gs.flatMap cG)]) (fun r H' => ∃ gv',
      let gs' := gs ++ lessG (ins + gs.length) (a.zip b)
      r = I64 (ins + gs.length + 6 * a.length) ∧ H' 1000000 = .cells v 27 1 [I64 ins, .ref 1000001 gv' 0 gs'.length, eI os] ∧ H' 1000001 = .cells gv' 119 3 (gs'.flatMap cG)) := by
  refine call93 (by simp) ?_
  simp only [Try.results93, Try.ntmps93, Try.f93, Option.getD_some, pl93]
  simp only [go_sem]
  refine c_put (id := 1000000) (gid := 1000001) (gv := gv) (ins := ins) (gs := gs) (os := os) (by omega) (by omega) (by omega) (by omega) (by simp only [go_sem]) (by simp only [go_sem]) ?_
  simp only [go_sem]
  refine ALoop.intro (pl := pl93) (fun k env H => ∃ (i gv' : Nat) (gs' : List Gate) (so : Int), env 0 = .ptr 1000000 v 0 ∧ env 1 = eI a ∧ env 2 = eI b ∧ env 7 = I64 so ∧ env 17 = I64 a.length ∧ env 18 = I64 i ∧
    H 1000000 = .cells v 27 1 [I64 ins, .ref 1000001 gv' 0 gs'.length, eI os] ∧ H 1000001 = .cells gv' 119 3 (gs'.flatMap cG) ∧ i + k = a.length ∧ gs'.length = gs.length + 1 + 6 * i ∧ so = ins + gs'.length - 1 ∧
    gs' ++ bldG less1 6 (ins + gs'.length) so ((a.zip b).drop i) = gs ++ lessG (ins + gs.length) (a.zip b)) a.length (by kernel_rfl) ?_ ?_
  · simp only [go_sem]
    exact ⟨0, _, gs ++ [(1, 0, 0)], ins + gs.length, rfl, by simp, by simp, rfl, by omega, by simp, by simp; omega, by simp [lessG]; congr 1; omega⟩
  · rintro k env H ⟨i, gv', gs', so, e0, e1, e2, e7, eL, eN, b0, b1, hk, hgl, hso, hg⟩
    by_cases hz : (i : Int) < a.length
    · obtain ⟨x, hx⟩ : ∃ x, a[i]? = some x := ⟨_, List.getElem?_eq_getElem (by omega)⟩
      obtain ⟨y, hy⟩ : ∃ y, b[i]? = some y := ⟨_, List.getElem?_eq_getElem (by omega)⟩
      have h0 : (0 : Int) ≤ i := by omega
      have hw1 : IntKind.wrap .i64 ((i : Int) + 1) = i + 1 := i64_in _ (by omega)
      simp only [go_sem, pl93, e0, e1, e2, e7, eL, eN, b0, b1, hz, hx, hy, h0]
      refine c_put (id := 1000000) (gid := 1000001) (gv := gv') (ins := ins) (gs := gs') (os := os) (by omega) (by omega) (by omega) (by first | omega | (simp only [List.length_append, List.length_cons, List.length_nil]; omega)) (by simp only [go_sem, b0]) (by simp only [go_sem, b1]) ?_
      simp only [go_sem, pl93, e0, e1, e2, e7, eL, eN, b0, b1, hz, hx, hy, h0, hw1]
      refine c_put (id := 1000000) (gid := 1000001) (gv := gv' + 1) (ins := ins) (gs := (gs' ++ [(5, x, y)])) (os := os) (by omega) (by omega) (by omega) (by first | omega | (simp only [List.length_append, List.length_cons, List.length_nil]; omega)) (by simp only [go_sem, b0]) (by simp only [go_sem, b1]) ?_
      simp only [go_sem, pl93, e0, e1, e2, e7, eL, eN, b0, b1, hz, hx, hy, h0, hw1]
      refine c_put (id := 1000000) (gid := 1000001) (gv := gv' + 1 + 1) (ins := ins) (gs := ((gs' ++ [(5, x, y)]) ++ [(2, ins + gs'.length, 0)])) (os := os) (by omega) (by omega) (by omega) (by first | omega | (simp only [List.length_append, List.length_cons, List.length_nil]; omega)) (by simp only [go_sem, b0]) (by simp only [go_sem, b1]) ?_
      simp only [go_sem, pl93, e0, e1, e2, e7, eL, eN, b0, b1, hz, hx, hy, h0, hw1]
      refine c_put (id := 1000000) (gid := 1000001) (gv := gv' + 1 + 1 + 1) (ins := ins) (gs := (((gs' ++ [(5, x, y)]) ++ [(2, ins + gs'.length, 0)]) ++ [(3, ins + (gs'.length + 1 : Nat), so)])) (os := os) (by omega) (by omega) (by omega) (by first | omega | (simp only [List.length_append, List.length_cons, List.length_nil]; omega)) (by simp only [go_sem, b0]) (by simp only [go_sem, b1]) ?_
      simp only [go_sem, pl93, e0, e1, e2, e7, eL, eN, b0, b1, hz, hx, hy, h0, hw1]
      refine c_put (id := 1000000) (gid := 1000001) (gv := gv' + 1 + 1 + 1 + 1) (ins := ins) (gs := ((((gs' ++ [(5, x, y)]) ++ [(2, ins + gs'.length, 0)]) ++ [(3, ins + (gs'.length + 1 : Nat), so)]) ++ [(2, x, 0)])) (os := os) (by omega) (by omega) (by omega) (by first | omega | (simp only [List.length_append, List.length_cons, List.length_nil]; omega)) (by simp only [go_sem, b0]) (by simp only [go_sem, b1]) ?_
      simp only [go_sem, pl93, e0, e1, e2, e7, eL, eN, b0, b1, hz, hx, hy, h0, hw1]
      refine c_put (id := 1000000) (gid := 1000001) (gv := gv' + 1 + 1 + 1 + 1 + 1) (ins := ins) (gs := (((((gs' ++ [(5, x, y)]) ++ [(2, ins + gs'.length, 0)]) ++ [(3, ins + (gs'.length + 1 : Nat), so)]) ++ [(2, x, 0)]) ++ [(3, ins + (gs'.length + 1 + 1 + 1 : Nat), y)])) (os := os) (by omega) (by omega) (by omega) (by first | omega | (simp only [List.length_append, List.length_cons, List.length_nil]; omega)) (by simp only [go_sem, b0]) (by simp only [go_sem, b1]) ?_
      simp only [go_sem, pl93, e0, e1, e2, e7, eL, eN, b0, b1, hz, hx, hy, h0, hw1]
      have hd : (a.zip b).drop i = (x, y) :: (a.zip b).drop (i + 1) := drop_step (List.getElem?_zip_eq_some.2 ⟨hx, hy⟩)
      rw [hd, bldG] at hg
      have hl1 : ((gs' ++ less1 (ins + gs'.length) x y so).length : Nat) = gs'.length + 6 := by simp [less1]
      refine ⟨k - 1, by omega, i + 1, _, gs' ++ less1 (ins + gs'.length) x y so, ins + gs'.length + 6 - 1, congrArg I64 (by omega), rfl, by rw [hl1], ?_, by omega, by rw [hl1]; omega, by rw [hl1]; omega, ?_⟩
      · congr 1
        rw [show gs' ++ [(5, x, y)] ++ [(2, ins + gs'.length, 0)] ++ [(3, ins + (gs'.length + 1 : Nat), so)] ++ [(2, x, 0)] ++ [(3, ins + (gs'.length + 1 + 1 + 1 : Nat), y)] ++ [(4, ins + (gs'.length + 1 + 1 : Nat), ins + (gs'.length + 1 + 1 + 1 + 1 : Nat))] = gs' ++ less1 (ins + gs'.length) x y so from ?_]
        simp [less1]
        try omega
      · rw [hl1, ← hg, List.append_assoc, show (ins + ((gs'.length + 6 : Nat) : Int)) = ins + gs'.length + 6 by omega]
    · simp only [go_sem, pl93, e0, e1, e2, e7, eL, eN, b0, b1, hz]
      rw [List.drop_of_length_le (by simp; omega), bldG, List.append_nil] at hg
      exact ⟨gv', congrArg I64 (by omega), by rw [hg, List.length_append], by rw [hg]⟩
theorem k_less {v gv : Nat} {ins : Int} {gs : List Gate} {os a b : List Int} (hab : a.length = b.length) (ha : a.length ≤ 1000) (hi : -100 ≤ ins) (hi2 : ins ≤ 100) (hl : gs.length ≤ 10000) :
    ACall Try.prog 94 [.ptr 1000000 v 0, eI a, eI b] (hp [.cells v 117 1 [I64 ins, .ref 1000001 gv 0 gs.length, eI os], .cells gv 119 3 (gs.flatMap cG)]) (fun r H' => ∃ gv',
      let gs' := gs ++ lessG (ins + gs.length) (a.zip b)
      r = I64 (ins + gs.length + 6 * a.length) ∧ H' 1000000 = .cells v 117 1 [I64 ins, .ref 1000001 gv' 0 gs'.length, eI os] ∧ H' 1000001 = .cells gv' 119 3 (gs'.flatMap cG)) := by
  refine call94 (by simp) ?_
  simp only [Try.results94, Try.ntmps94, Try.f94, Option.getD_some, pl94]
  simp only [go_sem]
  refine c_gateB (id := 1000000) (gid := 1000001) (gv := gv) (ins := ins) (gs := gs) (os := os) (by omega) (by omega) (by omega) (by omega) (by simp only [go_sem]) (by simp only [go_sem]) ?_
  simp only [go_sem]
  refine ALoop.intro (pl := pl94) (fun k env H => ∃ (i gv' : Nat) (gs' : List Gate) (so : Int), env 0 = .ptr 1000000 v 0 ∧ env 1 = eI a ∧ env 2 = eI b ∧ env 7 = I64 so ∧ env 17 = I64 a.length ∧ env 18 = I64 i ∧
    H 1000000 = .cells v 117 1 [I64 ins, .ref 1000001 gv' 0 gs'.length, eI os] ∧ H 1000001 = .cells gv' 119 3 (gs'.flatMap cG) ∧ i + k = a.length ∧ gs'.length = gs.length + 1 + 6 * i ∧ so = ins + gs'.length - 1 ∧
    gs' ++ bldG less1 6 (ins + gs'.length) so ((a.zip b).drop i) = gs ++ lessG (ins + gs.length) (a.zip b)) a.length (by kernel_rfl) ?_ ?_
  · simp only [go_sem]
    exact ⟨0, _, gs ++ [(1, 0, 0)], ins + gs.length, rfl, by simp, by simp, rfl, by omega, by simp, by simp; omega, by simp [lessG]; congr 1; omega⟩
  · rintro k env H ⟨i, gv', gs', so, e0, e1, e2, e7, eL, eN, b0, b1, hk, hgl, hso, hg⟩
    by_cases hz : (i : Int) < a.length
    · obtain ⟨x, hx⟩ : ∃ x, a[i]? = some x := ⟨_, List.getElem?_eq_getElem (by omega)⟩
      obtain ⟨y, hy⟩ : ∃ y, b[i]? = some y := ⟨_, List.getElem?_eq_getElem (by omega)⟩
      have h0 : (0 : Int) ≤ i := by omega
      have hw1 : IntKind.wrap .i64 ((i : Int) + 1) = i + 1 := i64_in _ (by omega)
      simp only [go_sem, pl94, e0, e1, e2, e7, eL, eN, b0, b1, hz, hx, hy, h0]
      refine c_gateB (id := 1000000) (gid := 1000001) (gv := gv') (ins := ins) (gs := gs') (os := os) (by omega) (by omega) (by omega) (by first | omega | (simp only [List.length_append, List.length_cons, List.length_nil]; omega)) (by simp only [go_sem, b0]) (by simp only [go_sem, b1]) ?_
      simp only [go_sem, pl94, e0, e1, e2, e7, eL, eN, b0, b1, hz, hx, hy, h0, hw1]
      refine c_gateB (id := 1000000) (gid := 1000001) (gv := gv' + 1) (ins := ins) (gs := (gs' ++ [(5, x, y)])) (os := os) (by omega) (by omega) (by omega) (by first | omega | (simp only [List.length_append, List.length_cons, List.length_nil]; omega)) (by simp only [go_sem, b0]) (by simp only [go_sem, b1]) ?_
      simp only [go_sem, pl94, e0, e1, e2, e7, eL, eN, b0, b1, hz, hx, hy, h0, hw1]
      refine c_gateB (id := 1000000) (gid := 1000001) (gv := gv' + 1 + 1) (ins := ins) (gs := ((gs' ++ [(5, x, y)]) ++ [(2, ins + gs'.length, 0)])) (os := os) (by omega) (by omega) (by omega) (by first | omega | (simp only [List.length_append, List.length_cons, List.length_nil]; omega)) (by simp only [go_sem, b0]) (by simp only [go_sem, b1]) ?_
      simp only [go_sem, pl94, e0, e1, e2, e7, eL, eN, b0, b1, hz, hx, hy, h0, hw1]
      refine c_gateB (id := 1000000) (gid := 1000001) (gv := gv' + 1 + 1 + 1) (ins := ins) (gs := (((gs' ++ [(5, x, y)]) ++ [(2, ins + gs'.length, 0)]) ++ [(3, ins + (gs'.length + 1 : Nat), so)])) (os := os) (by omega) (by omega) (by omega) (by first | omega | (simp only [List.length_append, List.length_cons, List.length_nil]; omega)) (by simp only [go_sem, b0]) (by simp only [go_sem, b1]) ?_
      simp only [go_sem, pl94, e0, e1, e2, e7, eL, eN, b0, b1, hz, hx, hy, h0, hw1]
      refine c_gateB (id := 1000000) (gid := 1000001) (gv := gv' + 1 + 1 + 1 + 1) (ins := ins) (gs := ((((gs' ++ [(5, x, y)]) ++ [(2, ins + gs'.length, 0)]) ++ [(3, ins + (gs'.length + 1 : Nat), so)]) ++ [(2, x, 0)])) (os := os) (by omega) (by omega) (by omega) (by first | omega | (simp only [List.length_append, List.length_cons, List.length_nil]; omega)) (by simp only [go_sem, b0]) (by simp only [go_sem, b1]) ?_
      simp only [go_sem, pl94, e0, e1, e2, e7, eL, eN, b0, b1, hz, hx, hy, h0, hw1]
      refine c_gateB (id := 1000000) (gid := 1000001) (gv := gv' + 1 + 1 + 1 + 1 + 1) (ins := ins) (gs := (((((gs' ++ [(5, x, y)]) ++ [(2, ins + gs'.length, 0)]) ++ [(3, ins + (gs'.length + 1 : Nat), so)]) ++ [(2, x, 0)]) ++ [(3, ins + (gs'.length + 1 + 1 + 1 : Nat), y)])) (os := os) (by omega) (by omega) (by omega) (by first | omega | (simp only [List.length_append, List.length_cons, List.length_nil]; omega)) (by simp only [go_sem, b0]) (by simp only [go_sem, b1]) ?_
      simp only [go_sem, pl94, e0, e1, e2, e7, eL, eN, b0, b1, hz, hx, hy, h0, hw1]
      have hd : (a.zip b).drop i = (x, y) :: (a.zip b).drop (i + 1) := drop_step (List.getElem?_zip_eq_some.2 ⟨hx, hy⟩)
      rw [hd, bldG] at hg
      have hl1 : ((gs' ++ less1 (ins + gs'.length) x y so).length : Nat) = gs'.length + 6 := by simp [less1]
      refine ⟨k - 1, by omega, i + 1, _, gs' ++ less1 (ins + gs'.length) x y so, ins + gs'.length + 6 - 1, congrArg I64 (by omega), rfl, by rw [hl1], ?_, by omega, by rw [hl1]; omega, by rw [hl1]; omega, ?_⟩
      · congr 1
        rw [show gs' ++ [(5, x, y)] ++ [(2, ins + gs'.length, 0)] ++ [(3, ins + (gs'.length + 1 : Nat), so)] ++ [(2, x, 0)] ++ [(3, ins + (gs'.length + 1 + 1 + 1 : Nat), y)] ++ [(4, ins + (gs'.length + 1 + 1 : Nat), ins + (gs'.length + 1 + 1 + 1 + 1 : Nat))] = gs' ++ less1 (ins + gs'.length) x y so from ?_]
        simp [less1]
        try omega
      · rw [hl1, ← hg, List.append_assoc, show (ins + ((gs'.length + 6 : Nat) : Int)) = ins + gs'.length + 6 by omega]
    · simp only [go_sem, pl94, e0, e1, e2, e7, eL, eN, b0, b1, hz]
      rw [List.drop_of_length_le (by simp; omega), bldG, List.append_nil] at hg
      exact ⟨gv', congrArg I64 (by omega), by rw [hg, List.length_append], by rw [hg]⟩
theorem k_putEq {v gv : Nat} {ins : Int} {gs : List Gate} {os a b : List Int} (hab : a.length = b.length) (ha : a.length ≤ 1000) (hi : -100 ≤ ins) (hi2 : ins ≤ 100) (hl : gs.length ≤ 10000) :
    ACall Try.prog 96 [.ptr 1000000 v 0, eI a, eI b] (hp [.cells v 27 1 [I64 ins, .ref 1000001 gv 0 gs.length, eI os], .cells gv 119 3 (gs.flatMap cG)]) (fun r H' => ∃ gv',
      let gs' := gs ++ eqG (ins + gs.length) (a.zip b)
      r = I64 (ins + gs.length + 3 * a.length) ∧ H' 1000000 = .cells v 27 1 [I64 ins, .ref 1000001 gv' 0 gs'.length, eI os] ∧ H' 1000001 = .cells gv' 119 3 (gs'.flatMap cG)) := by
  refine call96 (by simp) ?_
  simp only [Try.results96, Try.ntmps96, Try.f96, Option.getD_some, pl96]
  simp only [go_sem]
  refine c_put (id := 1000000) (gid := 1000001) (gv := gv) (ins := ins) (gs := gs) (os := os) (by omega) (by omega) (by omega) (by omega) (by simp only [go_sem]) (by simp only [go_sem]) ?_
  simp only [go_sem]
  refine ALoop.intro (pl := pl96) (fun k env H => ∃ (i gv' : Nat) (gs' : List Gate) (so : Int), env 0 = .ptr 1000000 v 0 ∧ env 1 = eI a ∧ env 2 = eI b ∧ env 7 = I64 so ∧ env 14 = I64 a.length ∧ env 15 = I64 i ∧
    H 1000000 = .cells v 27 1 [I64 ins, .ref 1000001 gv' 0 gs'.length, eI os] ∧ H 1000001 = .cells gv' 119 3 (gs'.flatMap cG) ∧ i + k = a.length ∧ gs'.length = gs.length + 1 + 3 * i ∧ so = ins + gs'.length - 1 ∧
    gs' ++ bldG eq1 3 (ins + gs'.length) so ((a.zip b).drop i) = gs ++ eqG (ins + gs.length) (a.zip b)) a.length (by kernel_rfl) ?_ ?_
  · simp only [go_sem]
    exact ⟨0, _, gs ++ [(1, 1, 0)], ins + gs.length, rfl, by simp, by simp, rfl, by omega, by simp, by simp; omega, by simp [eqG]; congr 1; omega⟩
  · rintro k env H ⟨i, gv', gs', so, e0, e1, e2, e7, eL, eN, b0, b1, hk, hgl, hso, hg⟩
    by_cases hz : (i : Int) < a.length
    · obtain ⟨x, hx⟩ : ∃ x, a[i]? = some x := ⟨_, List.getElem?_eq_getElem (by omega)⟩
      obtain ⟨y, hy⟩ : ∃ y, b[i]? = some y := ⟨_, List.getElem?_eq_getElem (by omega)⟩
      have h0 : (0 : Int) ≤ i := by omega
      have hw1 : IntKind.wrap .i64 ((i : Int) + 1) = i + 1 := i64_in _ (by omega)
      simp only [go_sem, pl96, e0, e1, e2, e7, eL, eN, b0, b1, hz, hx, hy, h0]
      refine c_put (id := 1000000) (gid := 1000001) (gv := gv') (ins := ins) (gs := gs') (os := os) (by omega) (by omega) (by omega) (by first | omega | (simp only [List.length_append, List.length_cons, List.length_nil]; omega)) (by simp only [go_sem, b0]) (by simp only [go_sem, b1]) ?_
      simp only [go_sem, pl96, e0, e1, e2, e7, eL, eN, b0, b1, hz, hx, hy, h0, hw1]
      refine c_put (id := 1000000) (gid := 1000001) (gv := gv' + 1) (ins := ins) (gs := (gs' ++ [(5, x, y)])) (os := os) (by omega) (by omega) (by omega) (by first | omega | (simp only [List.length_append, List.length_cons, List.length_nil]; omega)) (by simp only [go_sem, b0]) (by simp only [go_sem, b1]) ?_
      simp only [go_sem, pl96, e0, e1, e2, e7, eL, eN, b0, b1, hz, hx, hy, h0, hw1]
      refine c_put (id := 1000000) (gid := 1000001) (gv := gv' + 1 + 1) (ins := ins) (gs := ((gs' ++ [(5, x, y)]) ++ [(2, ins + gs'.length, 0)])) (os := os) (by omega) (by omega) (by omega) (by first | omega | (simp only [List.length_append, List.length_cons, List.length_nil]; omega)) (by simp only [go_sem, b0]) (by simp only [go_sem, b1]) ?_
      simp only [go_sem, pl96, e0, e1, e2, e7, eL, eN, b0, b1, hz, hx, hy, h0, hw1]
      have hd : (a.zip b).drop i = (x, y) :: (a.zip b).drop (i + 1) := drop_step (List.getElem?_zip_eq_some.2 ⟨hx, hy⟩)
      rw [hd, bldG] at hg
      have hl1 : ((gs' ++ eq1 (ins + gs'.length) x y so).length : Nat) = gs'.length + 3 := by simp [eq1]
      refine ⟨k - 1, by omega, i + 1, _, gs' ++ eq1 (ins + gs'.length) x y so, ins + gs'.length + 3 - 1, congrArg I64 (by omega), rfl, by rw [hl1], ?_, by omega, by rw [hl1]; omega, by rw [hl1]; omega, ?_⟩
      · congr 1
        rw [show gs' ++ [(5, x, y)] ++ [(2, ins + gs'.length, 0)] ++ [(3, ins + (gs'.length + 1 : Nat), so)] = gs' ++ eq1 (ins + gs'.length) x y so from ?_]
        simp [eq1]
        try omega
      · rw [hl1, ← hg, List.append_assoc, show (ins + ((gs'.length + 3 : Nat) : Int)) = ins + gs'.length + 3 by omega]
    · simp only [go_sem, pl96, e0, e1, e2, e7, eL, eN, b0, b1, hz]
      rw [List.drop_of_length_le (by simp; omega), bldG, List.append_nil] at hg
      exact ⟨gv', congrArg I64 (by omega), by rw [hg, List.length_append], by rw [hg]⟩
theorem k_eq {v gv : Nat} {ins : Int} {gs : List Gate} {os a b : List Int} (hab : a.length = b.length) (ha : a.length ≤ 1000) (hi : -100 ≤ ins) (hi2 : ins ≤ 100) (hl : gs.length ≤ 10000) :
    ACall Try.prog 97 [.ptr 1000000 v 0, eI a, eI b] (hp [.cells v 117 1 [I64 ins, .ref 1000001 gv 0 gs.length, eI os], .cells gv 119 3 (gs.flatMap cG)]) (fun r H' => ∃ gv',
      let gs' := gs ++ eqG (ins + gs.length) (a.zip b)
      r = I64 (ins + gs.length + 3 * a.length) ∧ H' 1000000 = .cells v 117 1 [I64 ins, .ref 1000001 gv' 0 gs'.length, eI os] ∧ H' 1000001 = .cells gv' 119 3 (gs'.flatMap cG)) := by
  refine call97 (by simp) ?_
  simp only [Try.results97, Try.ntmps97, Try.f97, Option.getD_some, pl97]
  simp only [go_sem]
  refine c_gateB (id := 1000000) (gid := 1000001) (gv := gv) (ins := ins) (gs := gs) (os := os) (by omega) (by omega) (by omega) (by omega) (by simp only [go_sem]) (by simp only [go_sem]) ?_
  simp only [go_sem]
  refine ALoop.intro (pl := pl97) (fun k env H => ∃ (i gv' : Nat) (gs' : List Gate) (so : Int), env 0 = .ptr 1000000 v 0 ∧ env 1 = eI a ∧ env 2 = eI b ∧ env 7 = I64 so ∧ env 14 = I64 a.length ∧ env 15 = I64 i ∧
    H 1000000 = .cells v 117 1 [I64 ins, .ref 1000001 gv' 0 gs'.length, eI os] ∧ H 1000001 = .cells gv' 119 3 (gs'.flatMap cG) ∧ i + k = a.length ∧ gs'.length = gs.length + 1 + 3 * i ∧ so = ins + gs'.length - 1 ∧
    gs' ++ bldG eq1 3 (ins + gs'.length) so ((a.zip b).drop i) = gs ++ eqG (ins + gs.length) (a.zip b)) a.length (by kernel_rfl) ?_ ?_
  · simp only [go_sem]
    exact ⟨0, _, gs ++ [(1, 1, 0)], ins + gs.length, rfl, by simp, by simp, rfl, by omega, by simp, by simp; omega, by simp [eqG]; congr 1; omega⟩
  · rintro k env H ⟨i, gv', gs', so, e0, e1, e2, e7, eL, eN, b0, b1, hk, hgl, hso, hg⟩
    by_cases hz : (i : Int) < a.length
    · obtain ⟨x, hx⟩ : ∃ x, a[i]? = some x := ⟨_, List.getElem?_eq_getElem (by omega)⟩
      obtain ⟨y, hy⟩ : ∃ y, b[i]? = some y := ⟨_, List.getElem?_eq_getElem (by omega)⟩
      have h0 : (0 : Int) ≤ i := by omega
      have hw1 : IntKind.wrap .i64 ((i : Int) + 1) = i + 1 := i64_in _ (by omega)
      simp only [go_sem, pl97, e0, e1, e2, e7, eL, eN, b0, b1, hz, hx, hy, h0]
      refine c_gateB (id := 1000000) (gid := 1000001) (gv := gv') (ins := ins) (gs := gs') (os := os) (by omega) (by omega) (by omega) (by first | omega | (simp only [List.length_append, List.length_cons, List.length_nil]; omega)) (by simp only [go_sem, b0]) (by simp only [go_sem, b1]) ?_
      simp only [go_sem, pl97, e0, e1, e2, e7, eL, eN, b0, b1, hz, hx, hy, h0, hw1]
      refine c_gateB (id := 1000000) (gid := 1000001) (gv := gv' + 1) (ins := ins) (gs := (gs' ++ [(5, x, y)])) (os := os) (by omega) (by omega) (by omega) (by first | omega | (simp only [List.length_append, List.length_cons, List.length_nil]; omega)) (by simp only [go_sem, b0]) (by simp only [go_sem, b1]) ?_
      simp only [go_sem, pl97, e0, e1, e2, e7, eL, eN, b0, b1, hz, hx, hy, h0, hw1]
      refine c_gateB (id := 1000000) (gid := 1000001) (gv := gv' + 1 + 1) (ins := ins) (gs := ((gs' ++ [(5, x, y)]) ++ [(2, ins + gs'.length, 0)])) (os := os) (by omega) (by omega) (by omega) (by first | omega | (simp only [List.length_append, List.length_cons, List.length_nil]; omega)) (by simp only [go_sem, b0]) (by simp only [go_sem, b1]) ?_
      simp only [go_sem, pl97, e0, e1, e2, e7, eL, eN, b0, b1, hz, hx, hy, h0, hw1]
      have hd : (a.zip b).drop i = (x, y) :: (a.zip b).drop (i + 1) := drop_step (List.getElem?_zip_eq_some.2 ⟨hx, hy⟩)
      rw [hd, bldG] at hg
      have hl1 : ((gs' ++ eq1 (ins + gs'.length) x y so).length : Nat) = gs'.length + 3 := by simp [eq1]
      refine ⟨k - 1, by omega, i + 1, _, gs' ++ eq1 (ins + gs'.length) x y so, ins + gs'.length + 3 - 1, congrArg I64 (by omega), rfl, by rw [hl1], ?_, by omega, by rw [hl1]; omega, by rw [hl1]; omega, ?_⟩
      · congr 1
        rw [show gs' ++ [(5, x, y)] ++ [(2, ins + gs'.length, 0)] ++ [(3, ins + (gs'.length + 1 : Nat), so)] = gs' ++ eq1 (ins + gs'.length) x y so from ?_]
        simp [eq1]
        try omega
      · rw [hl1, ← hg, List.append_assoc, show (ins + ((gs'.length + 3 : Nat) : Int)) = ins + gs'.length + 3 by omega]
    · simp only [go_sem, pl97, e0, e1, e2, e7, eL, eN, b0, b1, hz]
      rw [List.drop_of_length_le (by simp; omega), bldG, List.append_nil] at hg
      exact ⟨gv', congrArg I64 (by omega), by rw [hg, List.length_append], by rw [hg]⟩
end Go.Proofs.Ytjkcoldpecdajaa

set_option linter.unusedVariables false
set_option linter.unusedSimpArgs false
namespace Go.Proofs.Ytjkcoldpecdajaa
open Go.Abs Go.IntWalk
set_option maxRecDepth 100000
attribute [local go_sem] eI eGs eC eB eBs take_map take_cG2 len_cG2
theorem c_drawL {H : Heap} {K : AV → Heap → Prop} {code : List Int} (hcode : ∀ b ∈ code, 0 ≤ b ∧ b ≤ 255)
    (hK : ∀ c a b, -1 ≤ c.1 → c.1 ≤ 17 → c.2.1.length ≤ 400 → c.2.2.length ≤ 10 → a.length = b.length → a.length ≤ 17 → K (.tup [eC c, eI a, eI b]) H) : ACall Try.prog 25 [eB code] H K := by
  refine ACall.pure (R := fun r H' => ∃ (c : Circ) (a b : List Int), r = .tup [eC c, eI a, eI b] ∧ -1 ≤ c.1 ∧ c.1 ≤ 17 ∧ c.2.1.length ≤ 400 ∧ c.2.2.length ≤ 10 ∧ a.length = b.length ∧ a.length ≤ 17) rfl ?_ ?_
  · refine call25 (by simp) ?_
    simp only [Try.results25, Try.ntmps25, Try.f25, Option.getD_some, pl25]
    simp only [go_sem]
    refine c_draw (code := code) hcode fun c a b carry h1 h2 h3 h4 h5 h6 => ?_
    simp only [go_sem]
    exact ⟨c, a, b, rfl, h1, h2, h3, h4, h5, h6⟩
  · rintro r' H' ⟨c, a, b, rfl, h⟩
    exact ⟨_, .cl rfl, rfl, hK c a b h.1 h.2.1 h.2.2.1 h.2.2.2.1 h.2.2.2.2.1 h.2.2.2.2.2⟩
/-- What a comparison answers. -/
def cmpOf (G : Int → List (Int × Int) → List Gate) (cnt : Int) (c : Circ) (a b : List Int) : Circ × Int × Bool :=
  let c' : Circ := (c.1, c.2.1 ++ G (wiresOf c) (a.zip b), c.2.2)
  if listsOk c a b ∧ goodC c' then (c', wiresOf c + cnt * a.length, true) else ((0, [], []), 0, false)
def eCmp (x : Circ × Int × Bool) : AV := .tup [eC x.1, I64 x.2.1, .bool x.2.2]
/-- What a closure that appends a comparison is asked. -/
def ClosOk (F : FuncId) (G : Int → List (Int × Int) → List Gate) (cnt : Int) : Prop :=
  ∀ (id gid pa pb v gv va vb : Nat) (ins : Int) (gs : List Gate) (os a b : List Int) (H : Heap) (K : AV → Heap → Prop), [id, gid, pa, pb].Nodup → a.length = b.length → a.length ≤ 1000 → -100 ≤ ins → ins ≤ 100 → gs.length ≤ 10000 →
    H id = .cells v 27 1 [I64 ins, .ref gid gv 0 gs.length, eI os] → H gid = .cells gv 119 3 (gs.flatMap cG) → H pa = .cells va 25 1 [eI a] → H pb = .cells vb 25 1 [eI b] →
    (∀ gv' gs', gs' = gs ++ G (ins + gs.length) (a.zip b) → K (I64 (ins + gs.length + cnt * a.length)) (upd (upd H id (.cells v 27 1 [I64 ins, .ref gid gv' 0 gs'.length, eI os])) gid (.cells gv' 119 3 (gs'.flatMap cG)))) →
    ACall Try.prog F [.ptr id v 0, .ptr pa va 0, .ptr pb vb 0] H K
theorem upd_noop {H : Heap} {i : Nat} {b : Blk} (h : H i = b) : upd H i b = H := by
  rw [← h, upd_self]
theorem c_putLess {id gid v gv : Nat} {ins : Int} {gs : List Gate} {os a b : List Int} {H : Heap} {K : AV → Heap → Prop} (hne : id ≠ gid) (hab : a.length = b.length) (ha : a.length ≤ 1000) (hi : -100 ≤ ins) (hi2 : ins ≤ 100) (hl : gs.length ≤ 10000)
    (h0 : H id = .cells v 27 1 [I64 ins, .ref gid gv 0 gs.length, eI os]) (h1 : H gid = .cells gv 119 3 (gs.flatMap cG))
    (hK : ∀ gv' gs', gs' = gs ++ lessG (ins + gs.length) (a.zip b) → K (I64 (ins + gs.length + 6 * a.length)) (upd (upd H id (.cells v 27 1 [I64 ins, .ref gid gv' 0 gs'.length, eI os])) gid (.cells gv' 119 3 (gs'.flatMap cG)))) :
    ACall Try.prog 93 [.ptr id v 0, eI a, eI b] H K := by
  refine ACall.hand [id, gid] [.cells v 27 1 [I64 ins, .ref 1000001 gv 0 gs.length, eI os], .cells gv 119 3 (gs.flatMap cG)] (args' := [.ptr 1000000 v 0, eI a, eI b]) (by simp [hne]) ?_ ?_ rfl rfl (k_putLess hab ha hi hi2 hl) ?_
  · exact ⟨h0, by rw [h1, Blk.ren, renL_closed _ _ (cl_cG gs)], trivial⟩
  · simp only [List.all_cons, List.all_nil, inB_cl (cl_cG gs)]; rfl
  · rintro r' H' ⟨gv', rfl, h2, h3⟩
    refine ⟨_, [_, _], ⟨h2, h3, trivial⟩, rfl, ?_, .cl rfl, ?_⟩
    · simp only [List.all_cons, List.all_nil, inB_cl (cl_cG _)]; rfl
    · simp only [lays, Blk.ren, renL_closed _ _ (cl_cG _)]
      exact hK gv' _ rfl
theorem c_less {id gid v gv : Nat} {ins : Int} {gs : List Gate} {os a b : List Int} {H : Heap} {K : AV → Heap → Prop} (hne : id ≠ gid) (hab : a.length = b.length) (ha : a.length ≤ 1000) (hi : -100 ≤ ins) (hi2 : ins ≤ 100) (hl : gs.length ≤ 10000)
    (h0 : H id = .cells v 117 1 [I64 ins, .ref gid gv 0 gs.length, eI os]) (h1 : H gid = .cells gv 119 3 (gs.flatMap cG))
    (hK : ∀ gv' gs', gs' = gs ++ lessG (ins + gs.length) (a.zip b) → K (I64 (ins + gs.length + 6 * a.length)) (upd (upd H id (.cells v 117 1 [I64 ins, .ref gid gv' 0 gs'.length, eI os])) gid (.cells gv' 119 3 (gs'.flatMap cG)))) :
    ACall Try.prog 94 [.ptr id v 0, eI a, eI b] H K := by
  refine ACall.hand [id, gid] [.cells v 117 1 [I64 ins, .ref 1000001 gv 0 gs.length, eI os], .cells gv 119 3 (gs.flatMap cG)] (args' := [.ptr 1000000 v 0, eI a, eI b]) (by simp [hne]) ?_ ?_ rfl rfl (k_less hab ha hi hi2 hl) ?_
  · exact ⟨h0, by rw [h1, Blk.ren, renL_closed _ _ (cl_cG gs)], trivial⟩
  · simp only [List.all_cons, List.all_nil, inB_cl (cl_cG gs)]; rfl
  · rintro r' H' ⟨gv', rfl, h2, h3⟩
    refine ⟨_, [_, _], ⟨h2, h3, trivial⟩, rfl, ?_, .cl rfl, ?_⟩
    · simp only [List.all_cons, List.all_nil, inB_cl (cl_cG _)]; rfl
    · simp only [lays, Blk.ren, renL_closed _ _ (cl_cG _)]
      exact hK gv' _ rfl
theorem c_putEq {id gid v gv : Nat} {ins : Int} {gs : List Gate} {os a b : List Int} {H : Heap} {K : AV → Heap → Prop} (hne : id ≠ gid) (hab : a.length = b.length) (ha : a.length ≤ 1000) (hi : -100 ≤ ins) (hi2 : ins ≤ 100) (hl : gs.length ≤ 10000)
    (h0 : H id = .cells v 27 1 [I64 ins, .ref gid gv 0 gs.length, eI os]) (h1 : H gid = .cells gv 119 3 (gs.flatMap cG))
    (hK : ∀ gv' gs', gs' = gs ++ eqG (ins + gs.length) (a.zip b) → K (I64 (ins + gs.length + 3 * a.length)) (upd (upd H id (.cells v 27 1 [I64 ins, .ref gid gv' 0 gs'.length, eI os])) gid (.cells gv' 119 3 (gs'.flatMap cG)))) :
    ACall Try.prog 96 [.ptr id v 0, eI a, eI b] H K := by
  refine ACall.hand [id, gid] [.cells v 27 1 [I64 ins, .ref 1000001 gv 0 gs.length, eI os], .cells gv 119 3 (gs.flatMap cG)] (args' := [.ptr 1000000 v 0, eI a, eI b]) (by simp [hne]) ?_ ?_ rfl rfl (k_putEq hab ha hi hi2 hl) ?_
  · exact ⟨h0, by rw [h1, Blk.ren, renL_closed _ _ (cl_cG gs)], trivial⟩
  · simp only [List.all_cons, List.all_nil, inB_cl (cl_cG gs)]; rfl
  · rintro r' H' ⟨gv', rfl, h2, h3⟩
    refine ⟨_, [_, _], ⟨h2, h3, trivial⟩, rfl, ?_, .cl rfl, ?_⟩
    · simp only [List.all_cons, List.all_nil, inB_cl (cl_cG _)]; rfl
    · simp only [lays, Blk.ren, renL_closed _ _ (cl_cG _)]
      exact hK gv' _ rfl
theorem c_eq {id gid v gv : Nat} {ins : Int} {gs : List Gate} {os a b : List Int} {H : Heap} {K : AV → Heap → Prop} (hne : id ≠ gid) (hab : a.length = b.length) (ha : a.length ≤ 1000) (hi : -100 ≤ ins) (hi2 : ins ≤ 100) (hl : gs.length ≤ 10000)
    (h0 : H id = .cells v 117 1 [I64 ins, .ref gid gv 0 gs.length, eI os]) (h1 : H gid = .cells gv 119 3 (gs.flatMap cG))
    (hK : ∀ gv' gs', gs' = gs ++ eqG (ins + gs.length) (a.zip b) → K (I64 (ins + gs.length + 3 * a.length)) (upd (upd H id (.cells v 117 1 [I64 ins, .ref gid gv' 0 gs'.length, eI os])) gid (.cells gv' 119 3 (gs'.flatMap cG)))) :
    ACall Try.prog 97 [.ptr id v 0, eI a, eI b] H K := by
  refine ACall.hand [id, gid] [.cells v 117 1 [I64 ins, .ref 1000001 gv 0 gs.length, eI os], .cells gv 119 3 (gs.flatMap cG)] (args' := [.ptr 1000000 v 0, eI a, eI b]) (by simp [hne]) ?_ ?_ rfl rfl (k_eq hab ha hi hi2 hl) ?_
  · exact ⟨h0, by rw [h1, Blk.ren, renL_closed _ _ (cl_cG gs)], trivial⟩
  · simp only [List.all_cons, List.all_nil, inB_cl (cl_cG gs)]; rfl
  · rintro r' H' ⟨gv', rfl, h2, h3⟩
    refine ⟨_, [_, _], ⟨h2, h3, trivial⟩, rfl, ?_, .cl rfl, ?_⟩
    · simp only [List.all_cons, List.all_nil, inB_cl (cl_cG _)]; rfl
    · simp only [lays, Blk.ren, renL_closed _ _ (cl_cG _)]
      exact hK gv' _ rfl
theorem clos_less : ClosOk 92 lessG 6 := by
  intro id gid pa pb v gv va vb ins gs os a b H K hnd hab ha hi hi2 hl h0 h1 h2 h3 hK
  refine ACall.hand [id, gid, pa, pb] [.cells v 27 1 [I64 ins, .ref 1000001 gv 0 gs.length, eI os], .cells gv 119 3 (gs.flatMap cG), .cells va 25 1 [eI a], .cells vb 25 1 [eI b]] (args' := [.ptr 1000000 v 0, .ptr 1000002 va 0, .ptr 1000003 vb 0])
    (R := fun r H' => ∃ gv' gs', gs' = gs ++ lessG (ins + gs.length) (a.zip b) ∧ r = I64 (ins + gs.length + 6 * a.length) ∧ H' 1000000 = .cells v 27 1 [I64 ins, .ref 1000001 gv' 0 gs'.length, eI os] ∧ H' 1000001 = .cells gv' 119 3 (gs'.flatMap cG) ∧ H' 1000002 = .cells va 25 1 [eI a] ∧ H' 1000003 = .cells vb 25 1 [eI b]) hnd ?_ ?_ rfl rfl ?_ ?_
  · exact ⟨h0, by rw [h1, Blk.ren, renL_closed _ _ (cl_cG gs)], h2, h3, trivial⟩
  · simp only [List.all_cons, List.all_nil, inB_cl (cl_cG gs)]; rfl
  · refine call92 (by simp) ?_
    simp only [Try.results92, Try.ntmps92, Try.f92, Option.getD_some, pl92]
    simp only [go_sem]
    refine c_putLess (id := 1000000) (gid := 1000001) (v := v) (gv := gv) (ins := ins) (gs := gs) (os := os) (a := a) (b := b) (by omega) hab ha hi hi2 hl (by simp only [go_sem]) (by simp only [go_sem]) fun gv' gs' hgs => ?_
    simp only [go_sem]
    exact ⟨gv', gs', hgs, by simp⟩
  · rintro r' H' ⟨gv', gs', hgs, rfl, g0, g1, g2, g3⟩
    refine ⟨_, [_, _, _, _], ⟨g0, g1, g2, g3, trivial⟩, rfl, ?_, .cl rfl, ?_⟩
    · simp only [List.all_cons, List.all_nil, inB_cl (cl_cG _)]; rfl
    · simp only [List.nodup_cons, List.mem_cons, List.not_mem_nil, or_false, not_or, not_false_eq_true, List.nodup_nil, and_true] at hnd
      simp only [lays, Blk.ren, renL_closed _ _ (cl_cG _)]
      have e2 : upd (upd (upd (upd H id (.cells v 27 1 [I64 ins, .ref gid gv' 0 gs'.length, eI os])) gid (.cells gv' 119 3 (gs'.flatMap cG))) pa (.cells va 25 1 [eI a])) pb (.cells vb 25 1 [eI b]) = upd (upd H id (.cells v 27 1 [I64 ins, .ref gid gv' 0 gs'.length, eI os])) gid (.cells gv' 119 3 (gs'.flatMap cG)) := by
        rw [upd_noop (i := pa), upd_noop (i := pb)]
        · rw [upd_ne _ _ (Ne.symm hnd.2.1.2), upd_ne _ _ (Ne.symm hnd.1.2.2), h3]
        · rw [upd_ne _ _ (Ne.symm hnd.2.1.1), upd_ne _ _ (Ne.symm hnd.1.2.1), h2]
      exact Eq.mpr (congrArg (K _) e2) (hK gv' gs' hgs)
theorem clos_eq : ClosOk 95 eqG 3 := by
  intro id gid pa pb v gv va vb ins gs os a b H K hnd hab ha hi hi2 hl h0 h1 h2 h3 hK
  refine ACall.hand [id, gid, pa, pb] [.cells v 27 1 [I64 ins, .ref 1000001 gv 0 gs.length, eI os], .cells gv 119 3 (gs.flatMap cG), .cells va 25 1 [eI a], .cells vb 25 1 [eI b]] (args' := [.ptr 1000000 v 0, .ptr 1000002 va 0, .ptr 1000003 vb 0])
    (R := fun r H' => ∃ gv' gs', gs' = gs ++ eqG (ins + gs.length) (a.zip b) ∧ r = I64 (ins + gs.length + 3 * a.length) ∧ H' 1000000 = .cells v 27 1 [I64 ins, .ref 1000001 gv' 0 gs'.length, eI os] ∧ H' 1000001 = .cells gv' 119 3 (gs'.flatMap cG) ∧ H' 1000002 = .cells va 25 1 [eI a] ∧ H' 1000003 = .cells vb 25 1 [eI b]) hnd ?_ ?_ rfl rfl ?_ ?_
  · exact ⟨h0, by rw [h1, Blk.ren, renL_closed _ _ (cl_cG gs)], h2, h3, trivial⟩
  · simp only [List.all_cons, List.all_nil, inB_cl (cl_cG gs)]; rfl
  · refine call95 (by simp) ?_
    simp only [Try.results95, Try.ntmps95, Try.f95, Option.getD_some, pl95]
    simp only [go_sem]
    refine c_putEq (id := 1000000) (gid := 1000001) (v := v) (gv := gv) (ins := ins) (gs := gs) (os := os) (a := a) (b := b) (by omega) hab ha hi hi2 hl (by simp only [go_sem]) (by simp only [go_sem]) fun gv' gs' hgs => ?_
    simp only [go_sem]
    exact ⟨gv', gs', hgs, by simp⟩
  · rintro r' H' ⟨gv', gs', hgs, rfl, g0, g1, g2, g3⟩
    refine ⟨_, [_, _, _, _], ⟨g0, g1, g2, g3, trivial⟩, rfl, ?_, .cl rfl, ?_⟩
    · simp only [List.all_cons, List.all_nil, inB_cl (cl_cG _)]; rfl
    · simp only [List.nodup_cons, List.mem_cons, List.not_mem_nil, or_false, not_or, not_false_eq_true, List.nodup_nil, and_true] at hnd
      simp only [lays, Blk.ren, renL_closed _ _ (cl_cG _)]
      have e2 : upd (upd (upd (upd H id (.cells v 27 1 [I64 ins, .ref gid gv' 0 gs'.length, eI os])) gid (.cells gv' 119 3 (gs'.flatMap cG))) pa (.cells va 25 1 [eI a])) pb (.cells vb 25 1 [eI b]) = upd (upd H id (.cells v 27 1 [I64 ins, .ref gid gv' 0 gs'.length, eI os])) gid (.cells gv' 119 3 (gs'.flatMap cG)) := by
        rw [upd_noop (i := pa), upd_noop (i := pb)]
        · rw [upd_ne _ _ (Ne.symm hnd.2.1.2), upd_ne _ _ (Ne.symm hnd.1.2.2), h3]
        · rw [upd_ne _ _ (Ne.symm hnd.2.1.1), upd_ne _ _ (Ne.symm hnd.1.2.1), h2]
      exact Eq.mpr (congrArg (K _) e2) (hK gv' gs' hgs)
theorem c_compare {F : FuncId} {G : Int → List (Int × Int) → List Gate} {cnt : Int} (hF : ClosOk F G cnt) (hG : ∀ n l, (G n l).length ≤ 1 + 6 * l.length) {pa pb va vb : Nat} {c : Circ} {a b : List Int} {H : Heap} {K : AV → Heap → Prop} (hne : pa ≠ pb) (hc : CircOk c) (ha : a.length ≤ 1000000000) (hb : b.length ≤ 1000000000)
    (h2 : H pa = .cells va 25 1 [eI a]) (h3 : H pb = .cells vb 25 1 [eI b]) (hK : K (eCmp (cmpOf G cnt c a b)) H) : ACall Try.prog 91 [eC c, eI a, eI b, .fn F [.ptr pa va 0, .ptr pb vb 0]] H K := by
  obtain ⟨ins, gs, os⟩ := c
  refine ACall.hand [pa, pb] [.cells va 25 1 [eI a], .cells vb 25 1 [eI b]] (args' := [eC (ins, gs, os), eI a, eI b, .fn F [.ptr 1000000 va 0, .ptr 1000001 vb 0]])
    (R := fun r H' => Res (inL 2) anyAV H' r (eCmp (cmpOf G cnt (ins, gs, os) a b)) ∧ H' 1000000 = .cells va 25 1 [eI a] ∧ H' 1000001 = .cells vb 25 1 [eI b]) (by simp [hne]) ⟨h2, h3, trivial⟩ rfl rfl rfl ?_ ?_
  · refine call91 (by simp) ?_
    simp only [Try.results91, Try.ntmps91, Try.f91, Option.getD_some, pl91]
    simp only [go_sem]
    have nope : ∀ (H : Heap), ¬ (listsOk (ins, gs, os) a b ∧ goodC (ins, gs ++ G (wiresOf (ins, gs, os)) (a.zip b), os)) → Res (inL 2) anyAV H (.tup [.agg [I64 0, .nil, .nil], I64 0, .bool false]) (eCmp (cmpOf G cnt (ins, gs, os) a b)) := fun H h => by
      simp only [cmpOf, if_neg h, eCmp]
      exact .tup3 (.agg3 (.cl rfl) (.frz _ _ (.nil 3)) (.frz _ _ (.nil 1))) (.cl rfl) (.cl rfl)
    refine c_areLists (c := (ins, gs, os)) (a := a) (b := b) hc ha hb ?_
    by_cases h1 : listsOk (ins, gs, os) a b
    · have hB := good_bounds h1.1
      simp only at hB
      have hl := h1.2.1
      have hl2 := h1.2.2.1
      simp only [go_sem, h1]
      refine c_copy (c := (ins, gs, os)) 900 (v0 := 0) (by simp only [go_sem]; rfl) hc fun ver => ?_
      simp only [go_sem]
      refine hF 11 900 1000000 1000001 _ ver va vb ins gs os a b _ _ (by decide) hl (by omega) (by omega) (by omega) (by omega) (by simp only [go_sem]) (by simp only [go_sem]) (by simp only [go_sem]) (by simp only [go_sem]) fun gv' gs' hgs => ?_
      have hgl : gs'.length ≤ gs.length + 1 + 6 * a.length := by
        have := hG (ins + gs.length) (a.zip b)
        rw [List.length_zip] at this
        rw [hgs, List.length_append]; omega
      simp only [go_sem]
      refine c_goodI (c := (ins, gs', os)) ⟨by simp only; omega, hc.2⟩ (.agg3 (.cl rfl) (.frz _ _ (frzGn (T := 119) rfl rfl (by simp only [go_sem]))) (.cl rfl)) ?_
      by_cases h4 : goodC (ins, gs', os)
      · simp only [go_sem, h4]
        have yes : cmpOf G cnt (ins, gs, os) a b = ((ins, gs', os), ins + gs.length + cnt * a.length, true) := by
          simp only [cmpOf]
          rw [if_pos ⟨h1, by rw [hgs] at h4; exact h4⟩, hgs]
          rfl
        rw [yes]
        exact .tup3 (.agg3 (.cl rfl) (.frz _ _ (frzGn (T := 119) rfl rfl (by simp only [go_sem]))) (.cl rfl)) (.cl rfl) (.cl rfl)
      · simp only [go_sem, h4]
        exact nope _ fun h => h4 (by rw [hgs]; exact h.2)
    · simp only [go_sem, h1]
      exact nope _ fun h => h1 h.1
  · rintro r H' ⟨h, g2, g3⟩
    refine ⟨_, [_, _], ⟨g2, g3, trivial⟩, rfl, rfl, h, ?_⟩
    have e : ren (rhoL [pa, pb]) (eCmp (cmpOf G cnt (ins, gs, os) a b)) = eCmp (cmpOf G cnt (ins, gs, os) a b) := ren_closed _ _ rfl
    rw [e]
    simp only [lays]
    have e2 : upd (upd H pa (.cells va 25 1 [eI a])) pb (.cells vb 25 1 [eI b]) = H := by
      rw [upd_noop h2, upd_noop h3]
    exact Eq.mpr (congrArg (K _) e2) hK
theorem c_lessI {c : Circ} {a b : List Int} {H : Heap} {K : AV → Heap → Prop} (hc : CircOk c) (ha : a.length ≤ 1000000000) (hb : b.length ≤ 1000000000) (hK : K (eCmp (cmpOf lessG 6 c a b)) H) : ACall Try.prog 26 [eC c, eI a, eI b] H K := by
  refine ACall.pure (R := fun r _ => r = eCmp (cmpOf lessG 6 c a b)) rfl ?_ fun r H' h => by subst h; exact ⟨_, .cl rfl, rfl, hK⟩
  refine call26 (by simp) ?_
  simp only [Try.results26, Try.ntmps26, Try.f26, Option.getD_some, pl26]
  simp only [go_sem]
  refine c_compare clos_less (fun n l => by rw [lessG_len]; omega) (pa := 4) (pb := 5) (c := c) (a := a) (b := b) (by omega) hc ha hb (by simp only [go_sem]) (by simp only [go_sem]) ?_
  simp only [go_sem, eCmp]
theorem c_eqI {c : Circ} {a b : List Int} {H : Heap} {K : AV → Heap → Prop} (hc : CircOk c) (ha : a.length ≤ 1000000000) (hb : b.length ≤ 1000000000) (hK : K (eCmp (cmpOf eqG 3 c a b)) H) : ACall Try.prog 28 [eC c, eI a, eI b] H K := by
  refine ACall.pure (R := fun r _ => r = eCmp (cmpOf eqG 3 c a b)) rfl ?_ fun r H' h => by subst h; exact ⟨_, .cl rfl, rfl, hK⟩
  refine call28 (by simp) ?_
  simp only [Try.results28, Try.ntmps28, Try.f28, Option.getD_some, pl28]
  simp only [go_sem]
  refine c_compare clos_eq (fun n l => by rw [eqG_len]; omega) (pa := 4) (pb := 5) (c := c) (a := a) (b := b) (by omega) hc ha hb (by simp only [go_sem]) (by simp only [go_sem]) ?_
  simp only [go_sem, eCmp]
theorem c_lessS {c : Circ} {a b : List Int} {H : Heap} {K : AV → Heap → Prop} (hc : CircOk c) (ha : a.length ≤ 1000000000) (hb : b.length ≤ 1000000000) (hK : K (eCmp (cmpOf lessG 6 c a b)) H) : ACall Try.prog 27 [eC c, eI a, eI b] H K := by
  obtain ⟨ins, gs, os⟩ := c
  refine ACall.pure (R := fun r H' => Res (fun _ => false) anyAV H' r (eCmp (cmpOf lessG 6 (ins, gs, os) a b))) rfl ?_ fun r H' h => ⟨_, h, rfl, hK⟩
  refine call27 (by simp) ?_
  simp only [Try.results27, Try.ntmps27, Try.f27, Option.getD_some, pl27]
  simp only [go_sem]
  have nope : ∀ (H : Heap), ¬ (listsOk (ins, gs, os) a b ∧ goodC (ins, gs ++ lessG (wiresOf (ins, gs, os)) (a.zip b), os)) → Res (fun _ => false) anyAV H (.tup [.agg [I64 0, .nil, .nil], I64 0, .bool false]) (eCmp (cmpOf lessG 6 (ins, gs, os) a b)) := fun H h => by
    simp only [cmpOf, if_neg h, eCmp]
    exact .tup3 (.agg3 (.cl rfl) (.frz _ _ (.nil 3)) (.frz _ _ (.nil 1))) (.cl rfl) (.cl rfl)
  refine c_lists (c := (ins, gs, os)) (a := a) (b := b) hc ha hb ?_
  by_cases h1 : listsOk (ins, gs, os) a b
  · have hB := good_bounds h1.1
    simp only at hB
    have hl := h1.2.1
    have hl2 := h1.2.2.1
    simp only [go_sem, h1]
    refine c_own (c := (ins, gs, os)) 900 (v0 := 0) (by simp only [go_sem]; rfl) hc fun ver => ?_
    simp only [go_sem]
    refine c_less (id := 20) (gid := 900) (ins := ins) (gs := gs) (os := os) (a := a) (b := b) (gv := ver) (by omega) hl (by omega) (by omega) (by omega) (by omega) (by simp only [go_sem]) (by simp only [go_sem]) fun gv' gs' hgs => ?_
    have hgl : gs'.length ≤ gs.length + 1 + 6 * a.length := by
      rw [hgs, List.length_append, lessG_len, List.length_zip]; omega
    simp only [go_sem]
    refine c_goodSv (c := (ins, gs', os)) ⟨by simp only; omega, hc.2⟩ (.agg3 (.cl rfl) (.frz _ _ (frzGn (T := 119) rfl rfl (by simp only [go_sem]))) (.cl rfl)) ?_
    by_cases h4 : goodC (ins, gs', os)
    · simp only [go_sem, h4]
      have yes : cmpOf lessG 6 (ins, gs, os) a b = ((ins, gs', os), ins + gs.length + 6 * a.length, true) := by
        simp only [cmpOf]
        rw [if_pos ⟨h1, by rw [hgs] at h4; exact h4⟩, hgs]
        rfl
      rw [yes]
      exact .tup3 (.agg3 (.cl rfl) (.frz _ _ (frzGn (T := 119) rfl rfl (by simp only [go_sem]))) (.cl rfl)) (.cl rfl) (.cl rfl)
    · simp only [go_sem, h4]
      exact nope _ fun h => h4 (by rw [hgs]; exact h.2)
  · simp only [go_sem, h1]
    exact nope _ fun h => h1 h.1
theorem c_eqS {c : Circ} {a b : List Int} {H : Heap} {K : AV → Heap → Prop} (hc : CircOk c) (ha : a.length ≤ 1000000000) (hb : b.length ≤ 1000000000) (hK : K (eCmp (cmpOf eqG 3 c a b)) H) : ACall Try.prog 29 [eC c, eI a, eI b] H K := by
  obtain ⟨ins, gs, os⟩ := c
  refine ACall.pure (R := fun r H' => Res (fun _ => false) anyAV H' r (eCmp (cmpOf eqG 3 (ins, gs, os) a b))) rfl ?_ fun r H' h => ⟨_, h, rfl, hK⟩
  refine call29 (by simp) ?_
  simp only [Try.results29, Try.ntmps29, Try.f29, Option.getD_some, pl29]
  simp only [go_sem]
  have nope : ∀ (H : Heap), ¬ (listsOk (ins, gs, os) a b ∧ goodC (ins, gs ++ eqG (wiresOf (ins, gs, os)) (a.zip b), os)) → Res (fun _ => false) anyAV H (.tup [.agg [I64 0, .nil, .nil], I64 0, .bool false]) (eCmp (cmpOf eqG 3 (ins, gs, os) a b)) := fun H h => by
    simp only [cmpOf, if_neg h, eCmp]
    exact .tup3 (.agg3 (.cl rfl) (.frz _ _ (.nil 3)) (.frz _ _ (.nil 1))) (.cl rfl) (.cl rfl)
  refine c_lists (c := (ins, gs, os)) (a := a) (b := b) hc ha hb ?_
  by_cases h1 : listsOk (ins, gs, os) a b
  · have hB := good_bounds h1.1
    simp only at hB
    have hl := h1.2.1
    have hl2 := h1.2.2.1
    simp only [go_sem, h1]
    refine c_own (c := (ins, gs, os)) 900 (v0 := 0) (by simp only [go_sem]; rfl) hc fun ver => ?_
    simp only [go_sem]
    refine c_eq (id := 20) (gid := 900) (ins := ins) (gs := gs) (os := os) (a := a) (b := b) (gv := ver) (by omega) hl (by omega) (by omega) (by omega) (by omega) (by simp only [go_sem]) (by simp only [go_sem]) fun gv' gs' hgs => ?_
    have hgl : gs'.length ≤ gs.length + 1 + 6 * a.length := by
      rw [hgs, List.length_append, eqG_len, List.length_zip]; omega
    simp only [go_sem]
    refine c_goodSv (c := (ins, gs', os)) ⟨by simp only; omega, hc.2⟩ (.agg3 (.cl rfl) (.frz _ _ (frzGn (T := 119) rfl rfl (by simp only [go_sem]))) (.cl rfl)) ?_
    by_cases h4 : goodC (ins, gs', os)
    · simp only [go_sem, h4]
      have yes : cmpOf eqG 3 (ins, gs, os) a b = ((ins, gs', os), ins + gs.length + 3 * a.length, true) := by
        simp only [cmpOf]
        rw [if_pos ⟨h1, by rw [hgs] at h4; exact h4⟩, hgs]
        rfl
      rw [yes]
      exact .tup3 (.agg3 (.cl rfl) (.frz _ _ (frzGn (T := 119) rfl rfl (by simp only [go_sem]))) (.cl rfl)) (.cl rfl) (.cl rfl)
    · simp only [go_sem, h4]
      exact nope _ fun h => h4 (by rw [hgs]; exact h.2)
  · simp only [go_sem, h1]
    exact nope _ fun h => h1 h.1
end Go.Proofs.Ytjkcoldpecdajaa

set_option linter.unusedVariables false
set_option linter.unusedSimpArgs false
namespace Go.Proofs.Ytjkcoldpecdajaa
open Go.Abs Go.IntWalk
/-! The plain law of the comparators. -/
theorem run_less1 {acc : List Bool} {x y so : Int} (hx : 0 ≤ x ∧ x < acc.length) (hy : 0 ≤ y ∧ y < acc.length) (hs : 0 ≤ so ∧ so < acc.length) :
    runW (less1 acc.length x y so) acc = acc ++ [!(wv acc x == wv acc y), (wv acc x == wv acc y), (wv acc x == wv acc y) && wv acc so, !wv acc x, !wv acc x && wv acc y, ((wv acc x == wv acc y) && wv acc so) || (!wv acc x && wv acc y)] := by
  have e0 : ∀ (l : List Bool), wv (acc ++ l) (acc.length : Int) = (l[0]?).getD false := fun l => by simpa using wv_end (acc := acc) (l := l) (k := 0)
  have e1 : ∀ (l : List Bool), wv (acc ++ l) ((acc.length : Int) + 1) = (l[1]?).getD false := fun l => by simpa using wv_end (acc := acc) (l := l) (k := 1)
  have e2 : ∀ (l : List Bool), wv (acc ++ l) ((acc.length : Int) + 2) = (l[2]?).getD false := fun l => by simpa using wv_end (acc := acc) (l := l) (k := 2)
  have e3 : ∀ (l : List Bool), wv (acc ++ l) ((acc.length : Int) + 3) = (l[3]?).getD false := fun l => by simpa using wv_end (acc := acc) (l := l) (k := 3)
  have e4 : ∀ (l : List Bool), wv (acc ++ l) ((acc.length : Int) + 4) = (l[4]?).getD false := fun l => by simpa using wv_end (acc := acc) (l := l) (k := 4)
  simp only [less1, runW, List.append_assoc, List.cons_append, List.nil_append]
  simp [gval, wv_app hx.1 hx.2, wv_app hy.1 hy.2, wv_app hs.1 hs.2, e0, e1, e2, e3, e4]
theorem run_eq1 {acc : List Bool} {x y so : Int} (hx : 0 ≤ x ∧ x < acc.length) (hy : 0 ≤ y ∧ y < acc.length) (hs : 0 ≤ so ∧ so < acc.length) :
    runW (eq1 acc.length x y so) acc = acc ++ [!(wv acc x == wv acc y), (wv acc x == wv acc y), (wv acc x == wv acc y) && wv acc so] := by
  have e0 : ∀ (l : List Bool), wv (acc ++ l) (acc.length : Int) = (l[0]?).getD false := fun l => by simpa using wv_end (acc := acc) (l := l) (k := 0)
  have e1 : ∀ (l : List Bool), wv (acc ++ l) ((acc.length : Int) + 1) = (l[1]?).getD false := fun l => by simpa using wv_end (acc := acc) (l := l) (k := 1)
  simp only [eq1, runW, List.append_assoc, List.cons_append, List.nil_append]
  simp [gval, wv_app hx.1 hx.2, wv_app hy.1 hy.2, wv_app hs.1 hs.2, e0, e1]
theorem bit_val {acc : List Bool} {x : Int} (hx : 0 ≤ x ∧ x < acc.length) : bit acc x = (wv acc x).toNat := bit_of hx.1 hx.2
theorem lesser : ∀ (l : List (Int × Int)) (acc : List Bool), 1 ≤ acc.length → (∀ p ∈ l, (0 ≤ p.1 ∧ p.1 < acc.length) ∧ (0 ≤ p.2 ∧ p.2 < acc.length)) →
    wv (runW (bldG less1 6 acc.length (acc.length - 1) l) acc) (acc.length + 6 * l.length - 1) = (decide (val acc (l.map (·.1)) < val acc (l.map (·.2))) || (decide (val acc (l.map (·.1)) = val acc (l.map (·.2))) && wv acc (acc.length - 1)))
  | [], acc, h1, h => by simp [bldG, runW, val]
  | (x, y) :: l, acc, h1, h => by
    obtain ⟨hx, hy⟩ := h (x, y) (by simp)
    simp only at hx hy
    have hs : 0 ≤ (acc.length : Int) - 1 ∧ (acc.length : Int) - 1 < acc.length := by omega
    simp only [bldG, runW_app, run_less1 hx hy hs]
    generalize hq : [!(wv acc x == wv acc y), (wv acc x == wv acc y), (wv acc x == wv acc y) && wv acc (acc.length - 1), !wv acc x, !wv acc x && wv acc y, ((wv acc x == wv acc y) && wv acc (acc.length - 1)) || (!wv acc x && wv acc y)] = q
    have hql : q.length = 6 := by rw [← hq]; rfl
    have hl2 : (acc ++ q).length = acc.length + 6 := by rw [List.length_append, hql]
    have ih := lesser l (acc ++ q) (by omega) (fun p hp => by have := h p (by simp [hp]); rw [hl2]; omega)
    rw [show (((acc ++ q).length : Nat) : Int) = acc.length + 6 by omega] at ih
    have hv1 : val (acc ++ q) (l.map (·.1)) = val acc (l.map (·.1)) := val_app _ fun w hw => by
      obtain ⟨p, hp, rfl⟩ := List.mem_map.1 hw; exact (h p (by simp [hp])).1
    have hv2 : val (acc ++ q) (l.map (·.2)) = val acc (l.map (·.2)) := val_app _ fun w hw => by
      obtain ⟨p, hp, rfl⟩ := List.mem_map.1 hw; exact (h p (by simp [hp])).2
    have hb : wv (acc ++ q) ((acc.length : Int) + 6 - 1) = (((wv acc x == wv acc y) && wv acc (acc.length - 1)) || (!wv acc x && wv acc y)) := by
      rw [show ((acc.length : Int) + 6 - 1) = (acc.length : Int) + ((5 : Nat) : Int) by omega, wv_end, ← hq]
      rfl
    rw [hv1, hv2, hb] at ih
    rw [show ((acc.length : Int) + 6 * (((x, y) :: l).length : Nat) - 1) = acc.length + 6 + 6 * (l.length : Nat) - 1 by simp; omega, ih]
    simp only [List.map_cons, val, bit_val hx, bit_val hy]
    generalize val acc (l.map (·.1)) = A
    generalize val acc (l.map (·.2)) = B
    generalize wv acc (acc.length - 1) = s
    cases wv acc x <;> cases wv acc y <;> cases s <;> simp <;> (try rw [Bool.eq_iff_iff]) <;> (try simp) <;> omega
theorem equaler : ∀ (l : List (Int × Int)) (acc : List Bool), 1 ≤ acc.length → (∀ p ∈ l, (0 ≤ p.1 ∧ p.1 < acc.length) ∧ (0 ≤ p.2 ∧ p.2 < acc.length)) →
    wv (runW (bldG eq1 3 acc.length (acc.length - 1) l) acc) (acc.length + 3 * l.length - 1) = (decide (val acc (l.map (·.1)) = val acc (l.map (·.2))) && wv acc (acc.length - 1))
  | [], acc, h1, h => by simp [bldG, runW, val]
  | (x, y) :: l, acc, h1, h => by
    obtain ⟨hx, hy⟩ := h (x, y) (by simp)
    simp only at hx hy
    have hs : 0 ≤ (acc.length : Int) - 1 ∧ (acc.length : Int) - 1 < acc.length := by omega
    simp only [bldG, runW_app, run_eq1 hx hy hs]
    generalize hq : [!(wv acc x == wv acc y), (wv acc x == wv acc y), (wv acc x == wv acc y) && wv acc (acc.length - 1)] = q
    have hql : q.length = 3 := by rw [← hq]; rfl
    have hl2 : (acc ++ q).length = acc.length + 3 := by rw [List.length_append, hql]
    have ih := equaler l (acc ++ q) (by omega) (fun p hp => by have := h p (by simp [hp]); rw [hl2]; omega)
    rw [show (((acc ++ q).length : Nat) : Int) = acc.length + 3 by omega] at ih
    have hv1 : val (acc ++ q) (l.map (·.1)) = val acc (l.map (·.1)) := val_app _ fun w hw => by
      obtain ⟨p, hp, rfl⟩ := List.mem_map.1 hw; exact (h p (by simp [hp])).1
    have hv2 : val (acc ++ q) (l.map (·.2)) = val acc (l.map (·.2)) := val_app _ fun w hw => by
      obtain ⟨p, hp, rfl⟩ := List.mem_map.1 hw; exact (h p (by simp [hp])).2
    have hb : wv (acc ++ q) ((acc.length : Int) + 3 - 1) = ((wv acc x == wv acc y) && wv acc (acc.length - 1)) := by
      rw [show ((acc.length : Int) + 3 - 1) = (acc.length : Int) + ((2 : Nat) : Int) by omega, wv_end, ← hq]
      rfl
    rw [hv1, hv2, hb] at ih
    rw [show ((acc.length : Int) + 3 * (((x, y) :: l).length : Nat) - 1) = acc.length + 3 + 3 * (l.length : Nat) - 1 by simp; omega, ih]
    simp only [List.map_cons, val, bit_val hx, bit_val hy]
    generalize val acc (l.map (·.1)) = A
    generalize val acc (l.map (·.2)) = B
    generalize wv acc (acc.length - 1) = s
    cases wv acc x <;> cases wv acc y <;> cases s <;> simp <;> (try rw [Bool.eq_iff_iff]) <;> (try simp) <;> omega
/-- What the gates of 'less' tell. -/
theorem less_tells {l : List (Int × Int)} {acc : List Bool} (h : ∀ p ∈ l, (0 ≤ p.1 ∧ p.1 < acc.length) ∧ (0 ≤ p.2 ∧ p.2 < acc.length)) :
    wv (runW (lessG acc.length l) acc) (acc.length + 6 * l.length) = decide (val acc (l.map (·.1)) < val acc (l.map (·.2))) := by
  have hg : gval acc (1, 0, 0) = false := by simp [gval]
  have hl : ((acc ++ [false]).length : Nat) = acc.length + 1 := by simp
  have := lesser l (acc ++ [false]) (by omega) (fun p hp => by have := h p hp; rw [hl]; omega)
  rw [show (((acc ++ [false]).length : Nat) : Int) = acc.length + 1 by omega] at this
  rw [val_app _ (fun w hw => by obtain ⟨p, hp, rfl⟩ := List.mem_map.1 hw; exact (h p hp).1), val_app _ (fun w hw => by obtain ⟨p, hp, rfl⟩ := List.mem_map.1 hw; exact (h p hp).2)] at this
  rw [show ((acc.length : Int) + 1 - 1) = acc.length + ((0 : Nat) : Int) by omega, wv_end] at this
  rw [lessG, runW, hg]
  rw [show ((acc.length : Int) + 6 * l.length) = acc.length + 1 + 6 * l.length - 1 by omega]
  simpa using this
theorem eq_tells {l : List (Int × Int)} {acc : List Bool} (h : ∀ p ∈ l, (0 ≤ p.1 ∧ p.1 < acc.length) ∧ (0 ≤ p.2 ∧ p.2 < acc.length)) :
    wv (runW (eqG acc.length l) acc) (acc.length + 3 * l.length) = decide (val acc (l.map (·.1)) = val acc (l.map (·.2))) := by
  have hg : gval acc (1, 1, 0) = true := by simp [gval]
  have hl : ((acc ++ [true]).length : Nat) = acc.length + 1 := by simp
  have := equaler l (acc ++ [true]) (by omega) (fun p hp => by have := h p hp; rw [hl]; omega)
  rw [show (((acc ++ [true]).length : Nat) : Int) = acc.length + 1 by omega] at this
  rw [val_app _ (fun w hw => by obtain ⟨p, hp, rfl⟩ := List.mem_map.1 hw; exact (h p hp).1), val_app _ (fun w hw => by obtain ⟨p, hp, rfl⟩ := List.mem_map.1 hw; exact (h p hp).2)] at this
  rw [show ((acc.length : Int) + 1 - 1) = acc.length + ((0 : Nat) : Int) by omega, wv_end] at this
  rw [eqG, runW, hg]
  rw [show ((acc.length : Int) + 3 * l.length) = acc.length + 1 + 3 * l.length - 1 by omega]
  simpa using this
end Go.Proofs.Ytjkcoldpecdajaa

set_option linter.unusedVariables false
set_option linter.unusedSimpArgs false
namespace Go.Proofs.Ytjkcoldpecdajaa
open Go.Abs Go.IntWalk
set_option maxRecDepth 100000
attribute [local go_sem] eI eGs eC eB eBs take_map take_cG2 len_cG2
theorem cmp_bounds (G : Int → List (Int × Int) → List Gate) (cnt : Int) (c : Circ) (a b : List Int) (hG : ∀ n l, (G n l).length ≤ 1 + 6 * l.length) (ha : a.length ≤ 17) : (cmpOf G cnt c a b).1.2.1.length ≤ c.2.1.length + 110 ∧ (cmpOf G cnt c a b).1.2.2.length ≤ c.2.2.length := by
  have h := hG (wiresOf c) (a.zip b)
  rw [List.length_zip] at h
  unfold cmpOf
  simp only []
  split
  · simp only [List.length_append]; omega
  · simp
theorem cmp_ok (G : Int → List (Int × Int) → List Gate) (cnt : Int) (c : Circ) (a b : List Int) : (cmpOf G cnt c a b).2.2 = true → (listsOk c a b ∧ goodC (cmpOf G cnt c a b).1 ∧ (cmpOf G cnt c a b).1 = (c.1, c.2.1 ++ G (wiresOf c) (a.zip b), c.2.2) ∧ (cmpOf G cnt c a b).2.1 = wiresOf c + cnt * a.length) := by
  unfold cmpOf
  simp only []
  split
  · rename_i h
    exact fun _ => ⟨h.1, h.2, rfl, rfl⟩
  · intro h; cases h
set_option maxHeartbeats 2000000 in
theorem c_law4 {code more : List Int} (hcode : ∀ b ∈ code, 0 ≤ b ∧ b ≤ 255) (hmore : ∀ b ∈ more, 0 ≤ b ∧ b ≤ 255) (hcl : code.length ≤ 9223372036854775807) {H : Heap} {K : AV → Heap → Prop} (hK : K (.bool true) H) : ACall Try.prog 4 [eB code, eB more] H K := by
  refine ACall.pure (R := fun r _ => r = .bool true) rfl ?_ fun r H' h => by subst h; exact ⟨_, .cl rfl, rfl, hK⟩
  refine call4 (by simp) ?_
  simp only [Try.results4, Try.ntmps4, Try.f4, Option.getD_some, pl4]
  simp only [go_sem]
  refine c_big (code := code) (more := more) hcl ?_
  by_cases hbig : (decide (1048576 < (code.length : Int)) || decide (1048576 - (code.length : Int) < more.length)) = true
  · simp only [go_sem, hbig]
  · rw [Bool.not_eq_true] at hbig
    have hsm : code.length ≤ 1048576 ∧ more.length ≤ 1048576 := by
      simp only [Bool.or_eq_false_iff, decide_eq_false_iff_not] at hbig; omega
    simp only [go_sem, hbig]
    refine c_drawL hcode fun c a b hc1 hc2 hc3 hc4 hab ha => ?_
    have hcO : CircOk c := ⟨by omega, by omega⟩
    have hxb := cmp_bounds lessG 6 c a b (fun n l => by rw [lessG_len]; omega) ha
    have hxo := cmp_ok lessG 6 c a b
    simp only [go_sem]
    refine c_lessI (c := c) hcO (by omega) (by omega) ?_
    simp only [go_sem, eCmp]
    refine c_lessS (c := c) hcO (by omega) (by omega) ?_
    simp only [go_sem, eCmp]
    generalize cmpOf lessG 6 c a b = x at hxb hxo ⊢
    obtain ⟨⟨xi, xg, xo⟩, l, ok⟩ := x
    simp only at hxb hxo
    simp only [go_sem]
    refine c_sameCircuit (x := (xi, xg, xo)) (y := (xi, xg, xo)) ⟨by simp only; omega, by simp only; omega⟩ ⟨by simp only; omega, by simp only; omega⟩ ?_
    simp only [go_sem]
    have hyb := cmp_bounds eqG 3 (xi, xg, xo) a b (fun n l => by rw [eqG_len]; omega) ha
    have hyo := cmp_ok eqG 3 (xi, xg, xo) a b
    have hxO : CircOk (xi, xg, xo) := ⟨by simp only; omega, by simp only; omega⟩
    refine c_eqI (c := (xi, xg, xo)) hxO (by omega) (by omega) ?_
    simp only [go_sem, eCmp]
    refine c_eqS (c := (xi, xg, xo)) hxO (by omega) (by omega) ?_
    simp only [go_sem, eCmp]
    generalize cmpOf eqG 3 (xi, xg, xo) a b = y at hyb hyo ⊢
    obtain ⟨⟨yi, yg, yo⟩, e, may⟩ := y
    simp only at hyb hyo
    simp only [go_sem]
    refine c_sameCircuit (x := (yi, yg, yo)) (y := (yi, yg, yo)) ⟨by simp only; omega, by simp only; omega⟩ ⟨by simp only; omega, by simp only; omega⟩ ?_
    cases ok
    · simp only [go_sem]
    cases may
    · simp only [go_sem]
    obtain ⟨⟨hg, _, ha2, hA, hB⟩, hG, hX, hL⟩ := hxo rfl
    obtain ⟨_, hG2, hY, hE⟩ := hyo rfl
    have hbd := good_bounds hg
    simp only [go_sem]
    refine ALoop.thaw 903 4 1 (t := 20) (by simp only [go_sem]) ?_
    refine ALoop.intro (pl := pl4) (fun k env H => ∃ (i bv v5 v14 : Nat) (ins : List Bool), env 1 = eB more ∧ env 5 = .ptr 5 v5 0 ∧ env 6 = eI a ∧ env 7 = eI b ∧ env 9 = I64 l ∧ env 14 = .ptr 14 v14 0 ∧ env 15 = I64 e ∧ env 20 = .ref 903 bv 0 ins.length ∧ env 21 = I64 i ∧
      H 5 = .cells v5 27 1 [I64 c.1, eGs c.2.1, eI c.2.2] ∧ H 14 = .cells v14 27 1 [I64 yi, eGs yg, eI yo] ∧ H 903 = .cells bv 4 1 (ins.map .bool) ∧ H 904 = .gone 0 ∧ (i : Int) + k = c.1 ∧ ins.length = i) c.1.toNat (by kernel_rfl) ?_ ?_
    · simp only [go_sem]
      exact ⟨0, _, _, _, [], rfl, rfl, rfl, rfl, rfl, rfl, rfl, rfl, by omega, rfl⟩
    · rintro k env H ⟨i, bv, v5, v14, ins, e1, e5, e6, e7, e9, e14, e15, e20, e21, b5, b14, bl, b904, hk, hil⟩
      by_cases hz : (i : Int) < c.1
      · have hw1 : IntKind.wrap .i64 ((i : Int) + 1) = i + 1 := i64_in _ (by omega)
        have hw2 : IntKind.wrap .u64 (i : Int) = i := u64_in _ (by omega)
        have h0 : (0 : Int) ≤ i := by omega
        simp only [go_sem, pl4, e1, e5, e6, e7, e9, e14, e15, e20, e21, b5, b14, bl, hz]
        refine c_numberOf (code := more) hmore (by omega) fun n hn1 hn2 => ?_
        simp only [go_sem, pl4, e1, e5, e6, e7, e9, e14, e15, e20, e21, b5, b14, bl, hz, hw1, hw2, h0]
        exact ⟨by omega, k - 1, by omega, i + 1, bv + 1, _, _, ins ++ [decide (abits .and .i64 (n.fdiv (2 ^ min i 64)) 1 = 1)], rfl, rfl, by simp, rfl, rfl, rfl, by simp, b904, by omega, by simp [hil]⟩
      · simp only [go_sem, pl4, e1, e5, e6, e7, e9, e14, e15, e20, e21, b5, b14, bl, hz]
        have hxi : xi = c.1 := congrArg (·.1) hX
        have hxg : xg = c.2.1 ++ lessG (wiresOf c) (a.zip b) := congrArg (·.2.1) hX
        have hyi : yi = xi := congrArg (·.1) hY
        have hyg : yg = xg ++ eqG (wiresOf (xi, xg, xo)) (a.zip b) := congrArg (·.2.1) hY
        have hll : (ins.length : Int) = yi := by omega
        have hxl : xg.length = c.2.1.length + (1 + 6 * a.length) := by rw [hxg, List.length_append, lessG_len, List.length_zip, ← hab, Nat.min_self]
        have hyl : yg.length = xg.length + (1 + 3 * a.length) := by rw [hyg, List.length_append, eqG_len, List.length_zip, ← hab, Nat.min_self]
        have hG3 : CircOk (yi, yg, yo) := ⟨by simp only; omega, by simp only; omega⟩
        have hal : (runW yg ins).length = ins.length + yg.length := runW_len _ _
        have hal2 : (runW yg ins).length ≤ 1000 := by omega
        have hL2 : l = c.1 + c.2.1.length + 6 * a.length := hL
        have hE2 : e = xi + xg.length + 3 * a.length := hE
        refine o_allI (c := (yi, yg, yo)) (ins := ins) 904 b904 hG3 hG2 hll (.frz _ _ (frzBn (T := 4) rfl (by simp) bl)) fun v1 => ?_
        have w1 : IntKind.i64.wrap ((c.2.1.length : Int) + c.1) = c.2.1.length + c.1 := i64_in _ (by omega)
        have w2 : IntKind.i64.wrap ((c.2.1.length : Int) + c.1 + 2) = c.2.1.length + c.1 + 2 := i64_in _ (by omega)
        have w3 : IntKind.i64.wrap (9 * (a.length : Int)) = 9 * a.length := i64_in _ (by omega)
        have w4 : IntKind.i64.wrap ((c.2.1.length : Int) + c.1 + 2 + 9 * a.length) = c.2.1.length + c.1 + 2 + 9 * a.length := i64_in _ (by omega)
        have t1 : ((runW yg ins).length : Int) = c.2.1.length + c.1 + 2 + 9 * a.length := by omega
        have t2 : ¬ l < 0 := by omega
        have t3 : ¬ ((c.2.1.length : Int) + c.1 + 2 + 9 * a.length) ≤ l := by omega
        have t4 : ¬ e < 0 := by omega
        have t5 : ¬ ((c.2.1.length : Int) + c.1 + 2 + 9 * a.length) ≤ e := by omega
        simp only [go_sem, pl4, e1, e5, e6, e7, e9, e14, e15, e20, e21, b5, b14, bl, w1, w2, w3, w4, t1, t2, t3, t4, t5]
        refine v_carried (a := runW yg ins) (ws := a) (.frz _ _ (frzBn (T := 4) rfl rfl (by simp only [go_sem]))) (.cl rfl) (by omega) (by omega) ?_
        simp only [go_sem, pl4, e1, e5, e6, e7, e9, e14, e15, e20, e21, b5, b14, bl]
        refine v_carried (a := runW yg ins) (ws := b) (.frz _ _ (frzBn (T := 4) rfl rfl (by simp only [go_sem]))) (.cl rfl) (by omega) (by omega) ?_
        have cv : ∀ ws : List Int, ws.length ≤ 60 → carr (runW yg ins) 0 ws 0 = (val (runW yg ins) ws : Int) := fun ws h => by
          have := carr_val (runW yg ins) ws 0 0 (by simp) (by omega)
          simpa using this
        have hacc : (((runW c.2.1 ins).length : Nat) : Int) = wiresOf c := by rw [runW_len, wiresOf]; omega
        have hacc2 : (((runW xg ins).length : Nat) : Int) = wiresOf (xi, xg, xo) := by rw [runW_len]; show _ = xi + (xg.length : Int); omega
        have hr1 : runW xg ins = runW (lessG (runW c.2.1 ins).length (a.zip b)) (runW c.2.1 ins) := by rw [hxg, runW_app, hacc]
        have hr2 : runW yg ins = runW (eqG (runW xg ins).length (a.zip b)) (runW xg ins) := by rw [hyg, runW_app, hacc2]
        have hinA : ∀ w ∈ a, 0 ≤ w ∧ w < ((runW c.2.1 ins).length : Int) := fun w hw => by have := hA w hw; omega
        have hinB : ∀ w ∈ b, 0 ≤ w ∧ w < ((runW c.2.1 ins).length : Int) := fun w hw => by have := hB w hw; omega
        have hle : ((runW c.2.1 ins).length : Int) ≤ (runW xg ins).length := by rw [runW_len, runW_len]; omega
        have hz2 : ∀ p ∈ a.zip b, (0 ≤ p.1 ∧ p.1 < ((runW c.2.1 ins).length : Int)) ∧ (0 ≤ p.2 ∧ p.2 < ((runW c.2.1 ins).length : Int)) := fun p hp => by
          have h1 := (List.of_mem_zip (a := p.1) (b := p.2) hp)
          exact ⟨hinA _ h1.1, hinB _ h1.2⟩
        have hz3 : ∀ p ∈ a.zip b, (0 ≤ p.1 ∧ p.1 < ((runW xg ins).length : Int)) ∧ (0 ≤ p.2 ∧ p.2 < ((runW xg ins).length : Int)) := fun p hp => by
          have := hz2 p hp
          omega
        have hvp : ∀ (gs : List Gate) (acc : List Bool) (ws : List Int), (∀ w ∈ ws, 0 ≤ w ∧ w < (acc.length : Int)) → val (runW gs acc) ws = val acc ws := fun gs acc ws h => by
          induction ws with
          | nil => rfl
          | cons w ws ih =>
            simp only [val]
            rw [bit_pre (h w (by simp)).1 (h w (by simp)).2, ih fun x hx => h x (by simp [hx])]
        have hless := less_tells hz2
        have heq := eq_tells hz3
        rw [List.length_zip, ← hab, Nat.min_self, List.map_fst_zip (by omega), List.map_snd_zip (by omega)] at hless heq
        rw [← hr1, hacc] at hless
        rw [← hr2, hacc2] at heq
        have hA1 : val (runW xg ins) a = val (runW c.2.1 ins) a := by rw [hr1]; exact hvp _ _ _ hinA
        have hB1 : val (runW xg ins) b = val (runW c.2.1 ins) b := by rw [hr1]; exact hvp _ _ _ hinB
        have hA2 : val (runW yg ins) a = val (runW c.2.1 ins) a := by rw [hr2, ← hA1]; exact hvp _ _ _ fun w hw => by have := hinA w hw; omega
        have hB2 : val (runW yg ins) b = val (runW c.2.1 ins) b := by rw [hr2, ← hB1]; exact hvp _ _ _ fun w hw => by have := hinB w hw; omega
        rw [hA1, hB1] at heq
        have hl1 : (runW yg ins)[l.toNat]? = some (decide (val (runW c.2.1 ins) a < val (runW c.2.1 ins) b)) := by
          rw [← hless, show wiresOf c + 6 * (a.length : Int) = l from hL.symm, hr2]
          have h2 := wv_at (acc := runW xg ins) (x := l) (by omega) (by rw [runW_len]; omega)
          exact runW_pre _ _ _ _ h2
        have he1 : (runW yg ins)[e.toNat]? = some (decide (val (runW c.2.1 ins) a = val (runW c.2.1 ins) b)) := by
          rw [← heq, show wiresOf (xi, xg, xo) + 3 * (a.length : Int) = e from hE.symm]
          exact wv_at (by omega) (by omega)
        rw [cv a (by omega), cv b (by omega), hA2, hB2]
        have q1 : (decide (((val (runW c.2.1 ins) a : Nat) : Int) < (val (runW c.2.1 ins) b : Nat))) = decide (val (runW c.2.1 ins) a < val (runW c.2.1 ins) b) := decide_eq_decide.2 (by omega)
        have q2 : (decide (((val (runW c.2.1 ins) a : Nat) : Int) = (val (runW c.2.1 ins) b : Nat))) = decide (val (runW c.2.1 ins) a = val (runW c.2.1 ins) b) := decide_eq_decide.2 (by omega)
        have l0 : 0 ≤ l := by omega
        have l1 : l < ((runW yg ins).length : Int) := by omega
        have e0' : 0 ≤ e := by omega
        have e1' : e < ((runW yg ins).length : Int) := by omega
        simp only [go_sem, pl4, e1, e5, e6, e7, e9, e14, e15, e20, e21, b5, b14, bl, w1, w2, w3, w4, t1, hl1, he1, q1, q2, l0, e0']
        omega
end Go.Proofs.Ytjkcoldpecdajaa
