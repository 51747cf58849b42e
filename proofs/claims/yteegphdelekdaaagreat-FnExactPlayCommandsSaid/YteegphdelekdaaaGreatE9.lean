/- Texts of ours, joined: YteegphdelekdaaaGreatH45 YteegphdelekdaaaGreatH46 YteegphdelekdaaaGreatH47 YteegphdelekdaaaGreatH48 YteegphdelekdaaaGreatH49. -/
import Derived.Test.YteegphdelekdaaaGreatE8
set_option linter.unusedVariables false
set_option linter.unusedSimpArgs false
namespace Go.Proofs.YteegphdelekdaaaGreat
open Go.Abs Go.IntWalk
set_option maxRecDepth 100000
attribute [local go_sem] eI eU eNs eN cN eChs eCh cCh eCos eCo cCo eP take_map
theorem c_mul64 {n : Nat} (hn : n ≤ 1000) {H : Heap} {K : AV → Heap → Prop} (hK : K (.tup [U64 0, U64 n]) H) : ACall Tryz.prog 183 [U64 1, U64 n] H K := by
  refine pureC rfl rfl ?_ hK
  refine call183 (by simp) ?_
  simp only [Tryz.results183, Tryz.ntmps183, Tryz.f183, Option.getD_some, pl183]
  have e1 : abits .and .u64 ((1 : Nat) : Int) (4294967295 : Int) = 1 := by decide
  have e2 : abits .and .u64 (n : Int) (4294967295 : Int) = n := by
    have := and_u (a := n) (b := 4294967295) (by omega) (by omega)
    have e := and_mask n 32
    rw [show (2 : Nat) ^ 32 - 1 = 4294967295 by decide, Nat.mod_eq_of_lt (Nat.lt_of_le_of_lt hn (by decide))] at e
    rw [e] at this
    exact this
  have e3 : ((n : Int)).fdiv (2 ^ 32) = 0 := by
    rw [Int.fdiv_eq_ediv_of_nonneg _ (by decide)]
    exact Int.ediv_eq_zero_of_lt (by omega) (by omega)
  have e4 : ((0 : Int)).fdiv (2 ^ 32) = 0 := by decide
  have e5 : ((1 : Int)).fdiv (2 ^ 32) = 0 := by decide
  have e6 : abits .and .u64 (0 : Int) (4294967295 : Int) = 0 := by decide
  have e7 : IntKind.wrap .u64 (n : Int) = n := u64_in _ (by omega)
  have e8 : IntKind.wrap .u64 0 = 0 := u64_in _ (by omega)
  have e9 : abits .and .u64 (1 : Int) (4294967295 : Int) = 1 := by decide
  have m32 : (min 32 64 : Nat) = 32 := rfl
  simp only [go_sem, e1, e2, e3, e4, e5, e6, e7, m32, Int.one_mul, Int.zero_mul, Int.mul_zero, Int.zero_add, Int.add_zero, Int.cast_ofNat_Int]
  simp only [e1, e2, e3, e4, e5, e6, e7, e8, e9, Int.one_mul, Int.add_zero]
  rfl
theorem c_mul {n : Nat} (hn : n ≤ 1000) {H : Heap} {K : AV → Heap → Prop} (hK : K (.tup [.int .u64 0, U64 n]) H) : ACall Tryz.prog 155 [U64 1, U64 n] H K := by
  refine pureC rfl rfl ?_ hK
  refine call155 (by simp) ?_
  simp only [Tryz.results155, Tryz.ntmps155, Tryz.f155, Option.getD_some, pl155]
  simp only [go_sem]
  refine c_mul64 hn ?_
  simp only [go_sem]
  rfl
/-- So many first, then noughts. -/
def rep1 (c n : Nat) : List AV := List.replicate c (I64 (-1)) ++ List.replicate (n - c) (I64 0)
theorem rep1_len {c n : Nat} (h : c ≤ n) : (rep1 c n).length = n := by simp [rep1]; omega
theorem rep1_step {c n : Nat} (h : c ≤ n) : List.take c (rep1 c n) ++ List.take (min c (n - c)) (List.take c (rep1 c n)) ++ List.drop (c + min c (n - c)) (rep1 c n) = rep1 (c + min c (n - c)) n := by
  unfold rep1
  generalize hm : min c (n - c) = m
  rw [List.take_append_of_le_length (by simp), List.take_of_length_le (by simp), List.drop_append, List.length_replicate, List.drop_of_length_le (by simp), List.nil_append, List.drop_replicate, List.take_replicate, List.replicate_append_replicate]
  rw [show c + min m c = c + m by omega, show n - c - (c + m - c) = n - (c + m) by omega]
theorem k_repeat {n : Nat} (h1 : 1 ≤ n) (h2 : n ≤ 1000) {H : Heap} : ACall Tryz.prog 128 [eI [-1], I64 n] H fun r H' => ∃ v, r = .ref 30 v 0 n ∧ H' 30 = .cells v 3 1 (List.replicate n (I64 (-1))) := by
  refine call128 (by simp) ?_
  simp only [Tryz.results128, Tryz.ntmps128, Tryz.f128, Option.getD_some, pl128]
  have g1 : ¬ (n : Int) < 0 := by omega
  have g2 : IntKind.wrap .u64 (n : Int) = n := u64_in _ (by omega)
  have g3 : IntKind.wrap .u64 (1 : Int) = 1 := u64_in _ (by omega)
  have g4 : IntKind.wrap .i64 (n : Int) = n := i64_in _ (by omega)
  have g5 : ¬ (9223372036854775807 : Int) < n := by omega
  simp only [go_sem, g1, g2, g3, g4, g5]
  refine c_mul (n := n) h2 ?_
  have r1 : reps n [AV.int .i64 0] = List.replicate n (I64 0) := by
    unfold reps
    split
    · rename_i h0; injection h0 with h0; rw [← h0]
    · rename_i h0; exact absurd rfl (h0 _)
  have m1 : min 1 n = 1 := by omega
  have g6 : (0 : Int) ≤ n := by omega
  have g7 : (n : Int) ≤ 281474976710656 := by omega
  have g8 : (8 : Int) * n ≤ 281474976710656 := by omega
  have r2 : List.drop 1 (List.replicate n (I64 0)) = List.replicate (n - 1) (I64 0) := List.drop_replicate ..
  simp only [go_sem, g1, g2, g3, g4, g5, r1, m1, g6, g7, g8, List.length_replicate, r2, Int.cast_ofNat_Int]
  refine ⟨Int.le_refl _, ?_⟩
  refine ALoop.intro (pl := pl128) (fun k env H => ∃ (c v : Nat), env 7 = .ref 30 v 0 n ∧ env 8 = I64 c ∧ H 30 = .cells v 3 1 (rep1 c n) ∧ 1 ≤ c ∧ c ≤ n ∧ n - c ≤ k) n (by kernel_rfl) ?_ ?_
  · simp only [go_sem]
    exact ⟨1, _, rfl, rfl, rfl, by omega, by omega, by omega⟩
  · rintro k env H ⟨c, v, e7, e8, b30, hc1, hc2, hk⟩
    by_cases hz : (c : Int) < n
    · have h0 : (0 : Int) ≤ c := by omega
      have hl := rep1_len hc2
      have hst := rep1_step hc2
      simp only [go_sem, pl128, e7, e8, b30, hz, h0, hl, Nat.sub_zero]
      have hsc : (List.take c (rep1 c n)).all AV.scalar = true := by
        unfold rep1
        rw [List.take_append_of_le_length (by simp), List.take_of_length_le (by simp)]
        simp [AV.scalar]
      refine ⟨by omega, by omega, by omega, by omega, hsc, n - (c + min c (n - c)), by omega, c + min c (n - c), v, rfl, ?_, by rw [hst], by omega, by omega, by omega⟩
      rw [i64_in _ (by omega)]
      rfl
    · simp only [go_sem, pl128, e7, e8, b30, hz]
      have : c = n := by omega
      subst this
      exact ⟨v, rfl, by simp [rep1]⟩
theorem o_repeat {id ver e n : Nat} (h1 : 1 ≤ n) (h2 : n ≤ 1000) {H : Heap} {K : AV → Heap → Prop} (he : 1000000 ≤ e) (hne : id ≠ e) (hH : H id = .cells ver 3 1 [I64 (-1)]) (hg : ∃ v0, H e = .gone v0)
    (hK : ∀ v, K (.ref e v 0 n) (upd H e (.cells v 3 1 (List.replicate n (I64 (-1)))))) : ACall Tryz.prog 128 [.ref id ver 0 1, I64 n] H K := by
  obtain ⟨v0, hg⟩ := hg
  refine ACall.handL [e] [.gone v0] (by simp) ⟨by rw [hg]; rfl, trivial⟩ (by simp [Blk.inB]) (args' := [eI [-1], I64 n]) (.cons _ _ _ _ (.frz _ _ (frI (l := [-1]) (T := 3) ?_ hH)) (.cons _ _ _ _ (.cl rfl) .nil))
    (R := fun r H' => ∃ ver, r = .ref 1000000 ver 0 n ∧ H' 1000000 = .cells ver 3 1 (List.replicate n (I64 (-1)))) ?_ ?_
  · simp; exact hne
  · refine ACall.named 1000000 (by omega) (s := 30) (by omega) (T := 3) (sz := 1) (len := n) (Q := fun cs _ => cs = List.replicate n (I64 (-1))) ((k_repeat h1 h2).mono fun r H' ⟨v, h3, h4⟩ => ⟨v, _, h3, h4, rfl⟩) ?_
    rintro v ver cs H' rfl
    exact ⟨ver, rfl, upd_same ..⟩
  · rintro r H' ⟨ver, rfl, h⟩
    have hcl : closedL (List.replicate n (I64 (-1))) = true := by simp [closedL]
    refine ⟨[.cells ver 3 1 (List.replicate n (I64 (-1)))], ⟨h, trivial⟩, rfl, ?_, rfl, ?_⟩
    · simp only [List.all_cons, List.all_nil, Bool.and_true, Blk.inB]
      exact within_plainL _ fun x hx => by rw [(List.mem_replicate.1 hx).2]; rfl
    · simp only [lays, Blk.ren, renL_closed _ _ hcl]
      exact hK ver
end Go.Proofs.YteegphdelekdaaaGreat

set_option linter.unusedVariables false
set_option linter.unusedSimpArgs false
namespace Go.Proofs.YteegphdelekdaaaGreat
open Go.Abs Go.IntWalk
set_option maxRecDepth 100000
attribute [local go_sem] eI eU eNs eN cN eChs eCh cCh eCos eCo cCo eP take_map
def eII (g : List (List Int)) : AV := .sl 1 (g.map eI)
def gOf (w v : Nat) (cmds : List PCommand) : List (List Int) := (List.range (2 ^ (w * v))).map (nextL w v cmds)
theorem gOf_len {w v : Nat} {cmds : List PCommand} : (gOf w v cmds).length = 2 ^ (w * v) := by simp [gOf]
theorem gOf_suc {w v : Nat} {cmds : List PCommand} {x : Int} (hx : inN (2 ^ (w * v)) x) : sucs (gOf w v cmds) x = nextL w v cmds x.toNat := by
  unfold sucs gOf inN at *
  rw [List.getElem?_map, List.getElem?_range (by omega)]; rfl
theorem gOf_ok {w v : Nat} {cmds : List PCommand} (hok : ∀ c ∈ cmds, cmdOk w v c) : okG (gOf w v cmds) := by
  intro l hl x hx
  obtain ⟨i, hi, rfl⟩ := List.mem_map.1 hl
  rw [gOf_len]
  exact nextL_in hok (List.mem_range.1 hi) x hx
theorem gOf_small {w v : Nat} {cmds : List PCommand} (h : cmds.length ≤ 6) : ∀ l ∈ gOf w v cmds, l.length ≤ 100000 := by
  intro l hl
  obtain ⟨i, hi, rfl⟩ := List.mem_map.1 hl
  have := nextL_len (w := w) (v := v) (no := i) h
  omega
theorem c_graph {p : PProg} {w v : Nat} (h : Sm p w v) {H : Heap} {K : AV → Heap → Prop} (hK : K (eII (gOf w v p.2.2.2)) H) : ACall Tryz.prog 90 [eP p] H K := by
  have hn32 := h.n32
  have hmany := h.many
  refine ACall.pure (R := fun r H' => ∃ ver, r = .ref 5 ver 0 (2 ^ (w * v)) ∧ H' 5 = .cells ver 27 1 ((gOf w v p.2.2.2).map eI)) rfl ?_ ?_
  · refine call90 (by simp) ?_
    simp only [Tryz.results90, Tryz.ntmps90, Tryz.f90, Option.getD_some, pl90]
    simp only [go_sem]
    refine c_manyI (p := p) h.small ?_
    simp only [go_sem]
    refine ALoop.intro (pl := pl90) (fun k env H => ∃ (i v1 sv : Nat), env 1 = .ptr 1 v1 0 ∧ env 3 = .ref 5 sv 0 i ∧ env 7 = I64 (manyP p) ∧ env 8 = I64 i ∧ H 1 = .cells v1 36 1 [I64 p.1, I64 p.2.1, eNs p.2.2.1, eCos p.2.2.2] ∧ H 5 = .cells sv 27 1 (((List.range i).map (nextL w v p.2.2.2)).map eI) ∧ i + k = 2 ^ (w * v)) (2 ^ (w * v)) (by kernel_rfl) ?_ ?_
    · simp only [go_sem]
      exact ⟨0, _, _, rfl, rfl, rfl, rfl, rfl, by omega⟩
    · rintro k env H ⟨i, v1, sv, t1, t3, t7, t8, b1, b5, hk⟩
      rw [hmany] at t7
      have hwi : IntKind.wrap .i64 ((i : Int) + 1) = i + 1 := i64_in _ (by omega)
      by_cases hz : (i : Int) < ((2 ^ (w * v) : Nat) : Int)
      · simp only [go_sem, pl90, t1, t3, t7, t8, b1, b5, hz]
        refine c_nextI (p := p) h (no := i) (by omega) ?_
        have hl : (((List.range i).map (nextL w v p.2.2.2)).map eI).length = i := by simp
        simp only [go_sem, pl90, t1, t3, t7, t8, b1, b5, hz, hwi, hl]
        refine ⟨by omega, k - 1, by omega, i + 1, v1, _, rfl, rfl, by rw [hmany], rfl, rfl, ?_, by omega⟩
        congr 1
        rw [List.take_of_length_le (by omega), List.range_succ, List.map_append, List.map_append]
        rfl
      · simp only [go_sem, pl90, t1, t3, t7, t8, b1, b5, hz]
        have : i = 2 ^ (w * v) := by omega
        subst this
        exact ⟨sv, rfl, rfl⟩
  · rintro r H' ⟨ver, rfl, h1⟩
    exact ⟨_, Res.map1 (f := eI) (fun _ => rfl) (fun _ => rfl) gOf_len.symm rfl h1, rfl, hK⟩
theorem k_cloneI {l : List Int} (h1 : 1 ≤ l.length) (h2 : l.length ≤ 1000000) {H : Heap} : ACall Tryz.prog 129 [eI l] H fun r H' => ∃ ver, r = .ref 5 ver 0 l.length ∧ H' 5 = .cells ver 3 1 (l.map I64) := by
  obtain ⟨x, t, rfl⟩ : ∃ x t, l = x :: t := by cases l with
    | nil => simp at h1
    | cons x t => exact ⟨x, t, rfl⟩
  refine call129 (by simp) ?_
  simp only [Tryz.results129, Tryz.ntmps129, Tryz.f129, Option.getD_some, pl129]
  simp only [go_sem, List.map_cons]
  have hf := flI t
  simp only [List.length_cons] at h2
  exact ⟨⟨_, rfl⟩, fun b hb => ⟨fun e => (hb e).elim, fun _ => ⟨by omega, by rw [hf]; exact scI t, _, rfl, by rw [hf]⟩⟩⟩
theorem o_cloneI {l : List Int} (e : Nat) (he : 1000000 ≤ e) (h1 : 1 ≤ l.length) (h2 : l.length ≤ 1000000) {H : Heap} {K : AV → Heap → Prop} (hg : ∃ v0, H e = .gone v0) (hK : ∀ ver, K (.ref e ver 0 l.length) (upd H e (.cells ver 3 1 (l.map I64)))) : ACall Tryz.prog 129 [eI l] H K := by
  obtain ⟨v0, hg⟩ := hg
  refine ACall.own1 e hg rfl (cll_map fun _ => rfl) ?_ hK
  refine ACall.named 1000000 (by omega) (s := 5) (by omega) (T := 3) (sz := 1) (len := l.length) (Q := fun cs H' => cs = l.map I64) ((k_cloneI h1 h2).mono fun r H' h => ?_) ?_
  · obtain ⟨ver, h1, h2⟩ := h
    exact ⟨ver, _, h1, h2, rfl⟩
  · rintro v ver cs H' rfl
    exact ⟨ver, rfl, upd_same ..⟩
/-- Of an empty list: nothing, or nil. -/
theorem e_cloneI {H : Heap} {K : AV → Heap → Prop} (hK1 : K .nil H) (hK2 : K (eI []) H) : ACall Tryz.prog 129 [eI []] H K := by
  refine ACall.pure (R := fun r H' => r = .nil ∨ ∃ ver, r = .ref 5 ver 0 0 ∧ H' 5 = .cells ver 3 1 []) rfl ?_ ?_
  · refine call129 (by simp) ?_
    simp only [Tryz.results129, Tryz.ntmps129, Tryz.f129, Option.getD_some, pl129]
    simp only [go_sem, List.map_nil]
    exact ⟨⟨_, rfl⟩, fun b => ⟨fun _ => .inl trivial, fun _ => .inr ⟨_, rfl, rfl⟩⟩⟩
  · rintro r H' (rfl | ⟨ver, rfl, h⟩)
    · exact ⟨_, .cl rfl, rfl, hK1⟩
    · exact ⟨_, resI (l := []) rfl rfl h, rfl, hK2⟩
end Go.Proofs.YteegphdelekdaaaGreat

set_option linter.unusedVariables false
set_option linter.unusedSimpArgs false
namespace Go.Proofs.YteegphdelekdaaaGreat
open Go.Abs Go.IntWalk
set_option maxRecDepth 100000
attribute [local go_sem] eI eU eNs eN cN eChs eCh cCh eCos eCo cCo eP take_map eII
/-! The search in breadth. -/
theorem marked0 (n : Nat) : (marked n []).map I64 = List.replicate n (I64 (-1)) := by simp [marked]
/-- A call whose result is a list of which something is known. -/
theorem c_stepsE {g : List (List Int)} (hn1 : 1 ≤ g.length) (hn2 : g.length ≤ 1000) {H : Heap} {K : AV → Heap → Prop} (hK : K (eI (marked g.length [])) H) : ACall Tryz.prog 89 [eII g, eI []] H K := by
  refine ACall.pure (R := fun r H' => ∃ ver, r = .ref 1000000 ver 0 g.length ∧ H' 1000000 = .cells ver 3 1 ((marked g.length []).map I64)) rfl ?_ ?_
  · refine call89 (by simp) ?_
    simp only [Tryz.results89, Tryz.ntmps89, Tryz.f89, Option.getD_some, pl89]
    simp only [go_sem]
    refine o_repeat (e := 1000000) hn1 hn2 (by omega) (by omega) (by simp only [go_sem]) ⟨0, by simp only [go_sem]; rfl⟩ fun ver => ?_
    simp only [go_sem]
    refine e_cloneI ?_ ?_
    · simp only [go_sem]
      refine ALoop.intro (pl := pl89) (fun k env H => env 5 = .ref 1000000 ver 0 g.length ∧ env 6 = .nil ∧ env 18 = I64 0 ∧ env 19 = I64 0 ∧ H 1000000 = .cells ver 3 1 (List.replicate g.length (I64 (-1)))) 0 (by kernel_rfl) ?_ ?_
      · simp only [go_sem]
        rfl
      · rintro k env H ⟨e5, e6, e18, e19, b⟩
        simp only [go_sem, pl89, e5, e6, e18, e19, b]
        refine ALoop.intro (pl := pl89) (fun k env H => env 5 = .ref 1000000 ver 0 g.length ∧ env 6 = .nil ∧ H 1000000 = .cells ver 3 1 (List.replicate g.length (I64 (-1)))) 0 (by kernel_rfl) ?_ ?_
        · simp only [go_sem, e5, e6, b]
        · rintro k env H ⟨e5, e6, b⟩
          simp only [go_sem, pl89, e5, e6, b]
          exact ⟨ver, rfl, by rw [marked0]⟩
    · simp only [go_sem]
      refine ALoop.intro (pl := pl89) (fun k env H => env 5 = .ref 1000000 ver 0 g.length ∧ env 6 = .sl 1 [] ∧ env 18 = I64 0 ∧ env 19 = I64 0 ∧ H 1000000 = .cells ver 3 1 (List.replicate g.length (I64 (-1)))) 0 (by kernel_rfl) ?_ ?_
      · simp only [go_sem]
        rfl
      · rintro k env H ⟨e5, e6, e18, e19, b⟩
        simp only [go_sem, pl89, e5, e6, e18, e19, b]
        refine ALoop.intro (pl := pl89) (fun k env H => env 5 = .ref 1000000 ver 0 g.length ∧ env 6 = .sl 1 [] ∧ H 1000000 = .cells ver 3 1 (List.replicate g.length (I64 (-1)))) 0 (by kernel_rfl) ?_ ?_
        · simp only [go_sem, e5, e6, b]
        · rintro k env H ⟨e5, e6, b⟩
          have z0 : ((0 : Nat) : Int) = 0 := rfl
          simp only [go_sem, pl89, e5, e6, b, List.length_nil, z0]
          exact ⟨ver, rfl, by rw [marked0]⟩
  · rintro r H' ⟨ver, rfl, h⟩
    exact ⟨_, resI marked_len.symm rfl h, rfl, hK⟩
theorem lab_at {st : List Int} {n : Nat} {x : Int} (hn : st.length = n) (hx : inN n x) : (st.map I64)[x.toNat]? = some (I64 (lab st x)) := by
  rw [List.getElem?_map, lab_get hn hx]; rfl
theorem set_at {st : List Int} {i : Nat} {d : Int} : (st.map I64).set i (I64 d) = (st.set i d).map I64 := by rw [List.map_set]
theorem suc_at {g : List (List Int)} {x : Int} (hx : inN g.length x) : g[x.toNat]? = some (sucs g x) := by
  unfold sucs inN at *
  rw [List.getElem?_eq_getElem (by omega)]; rfl
theorem head_at {pre : List AV} {u : Int} {r : List Int} : (pre ++ (u :: r).map I64)[pre.length + 0]? = some (I64 u) := by
  rw [List.getElem?_append_right (by omega)]; simp
theorem c_stepsN {g : List (List Int)} {ss : List Int} (hg : okG g) (hn1 : 1 ≤ g.length) (hn2 : g.length ≤ 1000) (hgl : ∀ l ∈ g, l.length ≤ 100000) (hs : ∀ x ∈ ss, inN g.length x) (hs1 : 1 ≤ ss.length) (hs2 : ss.length ≤ 1000) {H : Heap} {K : AV → Heap → Prop} (hK : ∀ st, Dist g ss st → K (eI st) H) : ACall Tryz.prog 89 [eII g, eI ss] H K := by
  refine ACall.pure (R := fun r H' => ∃ ver st, r = .ref 1000000 ver 0 g.length ∧ H' 1000000 = .cells ver 3 1 (st.map I64) ∧ Dist g ss st) rfl ?_ ?_
  · refine call89 (by simp) ?_
    simp only [Tryz.results89, Tryz.ntmps89, Tryz.f89, Option.getD_some, pl89]
    simp only [go_sem]
    refine o_repeat (e := 1000000) hn1 hn2 (by omega) (by omega) (by simp only [go_sem]) ⟨0, by simp only [go_sem]; rfl⟩ fun ver => ?_
    simp only [go_sem]
    refine o_cloneI (l := ss) 1000001 (by omega) hs1 (by omega) ⟨0, by simp only [go_sem]; rfl⟩ fun ver2 => ?_
    simp only [go_sem]
    refine ALoop.intro (pl := pl89) (fun k env H => ∃ i : Nat, env 0 = eII g ∧ env 5 = .ref 1000000 ver 0 g.length ∧ env 6 = .ref 1000001 ver2 0 ss.length ∧ env 17 = eI ss ∧ env 18 = I64 ss.length ∧ env 19 = I64 i ∧ H 1000000 = .cells ver 3 1 ((marked g.length (ss.take i)).map I64) ∧ H 1000001 = .cells ver2 3 1 (ss.map I64) ∧ i + k = ss.length) ss.length (by kernel_rfl) ?_ ?_
    · simp only [go_sem]
      exact ⟨0, rfl, by rw [List.take_zero, marked0], by omega⟩
    · rintro k env H ⟨i, e0, e5, e6, e17, e18, e19, b0, b1, hk⟩
      by_cases hz : (i : Int) < ss.length
      · obtain ⟨x, hx⟩ := get_some (l := ss) (i := i) (by omega)
        have h0 : (0 : Int) ≤ i := by omega
        have hwi : IntKind.wrap .i64 ((i : Int) + 1) = i + 1 := i64_in _ (by omega)
        have hxn := hs x (List.mem_of_getElem? hx)
        have hx0 : (0 : Int) ≤ x := hxn.1
        have hx1 : x < (g.length : Int) := hxn.2
        have hsl : List.set ((marked g.length (ss.take i)).map I64) x.toNat (AV.int .i64 0) = (marked g.length (ss.take (i + 1))).map I64 := by
          rw [take_one hx, marked_app]; exact set_at
        have hml : ((marked g.length (ss.take i)).map I64).length = g.length := by rw [List.length_map, marked_len]
        simp only [go_sem, pl89, e0, e5, e6, e17, e18, e19, b0, b1, hz, hx, h0, hwi, hx0, hx1, hsl, hml]
        exact ⟨by omega, k - 1, by omega, i + 1, rfl, rfl, by omega⟩
      · rw [List.take_of_length_le (by omega)] at b0
        simp only [go_sem, pl89, e0, e5, e6, e17, e18, e19, b0, b1, hz]
        refine ALoop.intro (pl := pl89) (fun k env H => ∃ (st q : List Int) (C : List AV) (o v6 : Nat), env 0 = eII g ∧ env 5 = .ref 1000000 ver 0 g.length ∧ env 6 = .ref 1000001 v6 o q.length ∧ H 1000000 = .cells ver 3 1 (st.map I64) ∧ H 1000001 = .cells v6 3 1 C ∧ C.drop o = q.map I64 ∧ BI g ss st q ∧ negs st + q.length ≤ k ∧ k ≤ 10000) 10000 (by kernel_rfl) ?_ ?_
        · simp only [go_sem, e0, e5, e6, b0, b1]
          refine ⟨_, ss, _, 0, ver2, rfl, rfl, rfl, rfl, BI.start hs, ?_⟩
          have := negs_le (marked g.length ss)
          rw [marked_len] at this
          omega
        · rintro k env H ⟨st, q, C, o, v6, e0, e5, e6, b0, b1, hC, hI, hk, hkk⟩
          by_cases hq : q = []
          · subst hq
            have z0 : ((0 : Nat) : Int) = 0 := rfl
            simp only [go_sem, pl89, e0, e5, e6, b0, b1, List.length_nil, z0]
            exact ⟨ver, st, rfl, rfl, hI.dist hg⟩
          · obtain ⟨u, r, hqu⟩ : ∃ u r, q = u :: r := by cases q with
              | nil => exact absurd rfl hq
              | cons u r => exact ⟨u, r, rfl⟩
            obtain ⟨hun, hul⟩ := hI.opn u (by simp [hqu])
            have hpos : (0 : Int) < (q.length : Nat) := by rw [hqu, List.length_cons]; omega
            have hu0 : (0 : Int) ≤ u := hun.1
            have hu1 : u < (g.length : Int) := hun.2
            have hgu := suc_at hun
            have hha : C[o]? = some (I64 u) := by
              have : (C.drop o)[0]? = some (I64 u) := by rw [hC, hqu]; rfl
              rw [List.getElem?_drop] at this; exact this
            simp only [go_sem, pl89, e0, e5, e6, b0, b1, hpos, hha, hu0, hu1, hgu]
            refine ALoop.intro (pl := pl89) (fun k1 env H => ∃ (j : Nat) (st r : List Int) (C : List AV) (o v6 : Nat), env 0 = eII g ∧ env 5 = .ref 1000000 ver 0 g.length ∧ env 6 = .ref 1000001 v6 o (r.length + 1) ∧ env 37 = eI (sucs g u) ∧ env 38 = I64 (sucs g u).length ∧ env 39 = I64 j ∧ H 1000000 = .cells ver 3 1 (st.map I64) ∧ H 1000001 = .cells v6 3 1 C ∧ C.drop o = (u :: r).map I64 ∧ BI g ss st (u :: r) ∧ negs st + (r.length + 1) ≤ k ∧ (∀ y ∈ (sucs g u).take j, 0 ≤ lab st y ∧ lab st y ≤ lab st u + 1) ∧ j + k1 = (sucs g u).length) (sucs g u).length (by kernel_rfl) ?_ ?_
            · simp only [go_sem, e0, e5, e6, b0, b1]
              exact ⟨0, st, r, C, o, v6, by rw [hqu]; rfl, rfl, rfl, rfl, by rw [hC, hqu]; rfl, by rw [← hqu]; exact hI, by rw [hqu] at hk; exact hk, by simp, by omega⟩
            · rintro k1 env H ⟨j, st, r, C, o, v6, e0, e5, e6, e37, e38, e39, b0, b1, hC, hI, hk, hdone, hk1⟩
              have hCl : o + (r.length + 1) = C.length := by
                have := congrArg List.length hC
                simp only [List.length_drop, List.length_map, List.length_cons] at this
                omega
              have hs1000 : (sucs g u).length ≤ 100000 := hgl _ (List.mem_of_getElem? hgu)
              by_cases hz1 : (j : Int) < (sucs g u).length
              · obtain ⟨y, hy⟩ := get_some (l := sucs g u) (i := j) (by omega)
                have hym := List.mem_of_getElem? hy
                have hyn := suc_in hg hym
                have hyl := lab_at hI.len hyn
                have hlen := hI.len
                have h0 : (0 : Int) ≤ j := by omega
                have hwi : IntKind.wrap .i64 ((j : Int) + 1) = j + 1 := i64_in _ (by omega)
                have hy0 : (0 : Int) ≤ y := hyn.1
                have hy1 : y < (g.length : Int) := hyn.2
                by_cases hneg : lab st y < 0
                · have hul := lab_at hI.len hun
                  have hb := hI.bnd u hun (hI.opn u (by simp)).2
                  have hu00 := (hI.opn u (by simp)).2
                  have hha : C[o]? = some (I64 u) := by
                    have : (C.drop o)[0]? = some (I64 u) := by rw [hC]; rfl
                    rw [List.getElem?_drop] at this; exact this
                  have hpos1 : (0 : Int) < ((r.length + 1 : Nat) : Int) := by omega
                  have hT : List.take (r.length + 1) (List.drop o C) = (u :: r).map I64 := by rw [hC]; exact List.take_of_length_le (by simp)
                  have hset : List.set (st.map I64) y.toNat (AV.int .i64 (lab st u + 1)) = (st.set y.toNat (lab st u + 1)).map I64 := set_at
                  have hset2 : List.set (st.map I64) y.toNat (I64 (lab st u + 1)) = (st.set y.toNat (lab st u + 1)).map I64 := set_at
                  have hng := negs_set (d := lab st u + 1) (lab_get hlen hyn) hneg (by omega)
                  have hpush := hI.push hg hym hneg
                  have hrl : r.length + 1 ≤ 100000 := by omega
                  have hwl : IntKind.wrap .i64 (lab st u + 1) = lab st u + 1 := i64_in _ (by omega)
                  simp only [go_sem, pl89, e0, e5, e6, e37, e38, e39, b0, b1, hz1, hy, h0, hy0, hy1, hyl, hneg, hwl, hwi, hul, hu0, hu1, hlen, hha, hpos1, hT, hset, hset2]
                  have hL : ∀ x, inN g.length x → lab (st.set y.toNat (lab st u + 1)) x = if x = y then lab st u + 1 else lab st x := fun x hx => lab_set hlen hyn hx
                  have hLu : lab (st.set y.toNat (lab st u + 1)) u = lab st u := by rw [hL u hun, if_neg (by intro e; rw [e] at hu00; omega)]
                  refine ⟨by omega, by omega, by omega, k1 - 1, by omega, j + 1, _, r ++ [y], _, 0, v6 + 1, by rw [List.length_append]; rfl, rfl, rfl, rfl, by simp, hpush, ?_, fun z hz => ?_, by omega⟩
                  · rw [List.length_append, List.length_singleton]; omega
                  · rw [hLu]
                    rw [take_one hy] at hz
                    rcases List.mem_append.1 hz with hz | hz
                    · have h9 := hdone z hz
                      have hzn := suc_in hg (List.mem_of_mem_take hz)
                      rw [hL z hzn, if_neg (by intro e; rw [e] at h9; omega)]
                      exact h9
                    · rw [List.mem_singleton.1 hz, hL y hyn, if_pos rfl]
                      omega
                · simp only [go_sem, pl89, e0, e5, e6, e37, e38, e39, b0, b1, hz1, hy, h0, hy0, hy1, hyl, hneg, hwi]
                  refine ⟨k1 - 1, by omega, j + 1, st, r, C, o, v6, rfl, rfl, rfl, rfl, hC, hI, hk, fun z hz => ?_, by omega⟩
                  rw [take_one hy] at hz
                  rcases List.mem_append.1 hz with hz | hz
                  · exact hdone z hz
                  · rw [List.mem_singleton.1 hz]
                    have := hI.top u r rfl y hyn
                    omega
              · simp only [go_sem, pl89, e0, e5, e6, e37, e38, e39, b0, b1, hz1]
                rw [List.take_of_length_le (by omega)] at hdone
                refine ⟨k - 1, by omega, st, r, C, o + 1, v6, rfl, rfl, rfl, ?_, hI.pop hdone, by omega, by omega⟩
                rw [← List.drop_drop, hC]; rfl
  · rintro r H' ⟨ver, st, rfl, h, hd⟩
    exact ⟨_, resI hd.len.symm rfl h, rfl, hK st hd⟩
theorem c_steps {g : List (List Int)} {ss : List Int} (hg : okG g) (hn1 : 1 ≤ g.length) (hn2 : g.length ≤ 1000) (hgl : ∀ l ∈ g, l.length ≤ 100000) (hs : ∀ x ∈ ss, inN g.length x) (hs2 : ss.length ≤ 1000) {H : Heap} {K : AV → Heap → Prop} (hK : ∀ st, Dist g ss st → K (eI st) H) : ACall Tryz.prog 89 [eII g, eI ss] H K := by
  by_cases h : ss = []
  · subst h
    refine c_stepsE hn1 hn2 (hK _ ?_)
    exact (BI.start (g := g) (some := []) (by simp)).dist hg
  · refine c_stepsN hg hn1 hn2 hgl hs ?_ hs2 hK
    cases ss with
    | nil => exact absurd rfl h
    | cons x l => simp
end Go.Proofs.YteegphdelekdaaaGreat

set_option linter.unusedVariables false
set_option linter.unusedSimpArgs false
namespace Go.Proofs.YteegphdelekdaaaGreat
open Go.Abs Go.IntWalk
set_option maxRecDepth 100000
attribute [local go_sem] eI eU eNs eN cN eChs eCh cCh eCos eCo cCo eP take_map eII
/-! What is reached, by the implementation. -/
theorem inc_those {w v n : Nat} {t : List PNode} : inc (those w v t n) := inc_cast (List.Pairwise.filter _ List.pairwise_lt_range)
theorem those_in {w v n : Nat} {t : List PNode} : ∀ x ∈ those w v t n, inN n x := by
  intro x hx
  obtain ⟨i, hi, rfl⟩ := List.mem_map.1 hx
  have := List.mem_range.1 (List.mem_filter.1 hi).1
  unfold inN; omega
theorem mem_those {w v n : Nat} {t : List PNode} {x : Nat} : (x : Int) ∈ those w v t n ↔ x < n ∧ evalT w t (stOf w v x) = 1 := by
  unfold those
  simp only [List.mem_map, List.mem_filter, List.mem_range, decide_eq_true_eq]
  constructor
  · rintro ⟨i, h1, h2⟩
    have : i = x := by omega
    rw [← this]; exact h1
  · intro h; exact ⟨x, h, rfl⟩
theorem k_reached {g : List (List Int)} {ss : List Int} (hg : okG g) (hn1 : 1 ≤ g.length) (hn2 : g.length ≤ 1000) (hgl : ∀ l ∈ g, l.length ≤ 100000) (hs : ∀ x ∈ ss, inN g.length x) (hs2 : ss.length ≤ 1000) {H : Heap} : ACall Tryz.prog 99 [eII g, eI ss] H fun r H' => ∃ ver, r = .ref 8 ver 0 (reachL g ss).length ∧ H' 8 = .cells ver 3 1 ((reachL g ss).map I64) := by
  refine call99 (by simp) ?_
  simp only [Tryz.results99, Tryz.ntmps99, Tryz.f99, Option.getD_some, pl99]
  simp only [go_sem]
  refine c_steps (g := g) (ss := ss) hg hn1 hn2 hgl hs hs2 fun st hd => ?_
  have hlen := hd.len
  simp only [go_sem, hlen]
  refine ALoop.intro (pl := pl99) (fun k env H => ∃ (i sv : Nat), env 5 = .ref 8 sv 0 (labd st i).length ∧ env 11 = eI st ∧ env 12 = I64 g.length ∧ env 13 = I64 i ∧ H 8 = .cells sv 3 1 ((labd st i).map I64) ∧ i + k = g.length) g.length (by kernel_rfl) ?_ ?_
  · simp only [go_sem]
    exact ⟨0, _, rfl, rfl, rfl, by omega⟩
  · rintro k env H ⟨i, sv, e5, e11, e12, e13, b8, hk⟩
    have hwi : IntKind.wrap .i64 ((i : Int) + 1) = i + 1 := i64_in _ (by omega)
    have hle := labd_len (st := st) (n := i)
    by_cases hz : (i : Int) < g.length
    · have h0 : (0 : Int) ≤ i := by omega
      have hin : inN g.length (i : Int) := by unfold inN; omega
      have hx := lab_get hlen hin
      rw [Int.toNat_natCast] at hx
      have hsucc := labd_succ (st := st) (n := i)
      by_cases hh : 0 ≤ lab st (i : Int)
      · rw [if_pos hh] at hsucc
        simp only [go_sem, pl99, e5, e11, e12, e13, b8, hz, h0, hx, hh, hwi]
        refine ⟨by omega, k - 1, by omega, i + 1, sv + 1, ?_, rfl, ?_, by omega⟩
        · rw [hsucc, List.length_append]; rfl
        · rw [hsucc, List.map_append]; rfl
      · rw [if_neg hh] at hsucc
        simp only [go_sem, pl99, e5, e11, e12, e13, b8, hz, h0, hx, hh, hwi]
        exact ⟨k - 1, by omega, i + 1, sv, by rw [hsucc], rfl, by rw [hsucc], by omega⟩
    · simp only [go_sem, pl99, e5, e11, e12, e13, b8, hz]
      have : i = g.length := by omega
      subst this
      rw [← labd_reach hd]
      exact ⟨sv, rfl, rfl⟩
theorem c_reached {g : List (List Int)} {ss : List Int} (hg : okG g) (hn1 : 1 ≤ g.length) (hn2 : g.length ≤ 1000) (hgl : ∀ l ∈ g, l.length ≤ 100000) (hs : ∀ x ∈ ss, inN g.length x) (hs2 : ss.length ≤ 1000) {H : Heap} {K : AV → Heap → Prop} (hK : K (eI (reachL g ss)) H) : ACall Tryz.prog 99 [eII g, eI ss] H K := by
  refine ACall.pure rfl (k_reached hg hn1 hn2 hgl hs hs2) ?_
  rintro r H' ⟨ver, rfl, h⟩
  exact ⟨_, resI rfl rfl h, rfl, hK⟩
/-- What is reached in a program. -/
noncomputable def reachP (p : PProg) (w v : Nat) : List Int := reachL (gOf w v p.2.2.2) (those w v p.2.2.1 (2 ^ (w * v)))
theorem sm_many {p : PProg} {w v : Nat} (h : Sm p w v) : manyN p = 2 ^ (w * v) := by
  unfold manyN; rw [h.many, Int.toNat_natCast]
theorem two_pos (n : Nat) : 1 ≤ 2 ^ n := Nat.pow_pos (by omega)
theorem c_reachI {p : PProg} {w v : Nat} (h : Sm p w v) {H : Heap} {K : AV → Heap → Prop} (hK : K (eI (reachP p w v)) H) : ACall Tryz.prog 84 [eP p] H K := by
  have hn32 := h.n32
  refine pureC rfl rfl ?_ hK
  refine call84 (by simp) ?_
  simp only [Tryz.results84, Tryz.ntmps84, Tryz.f84, Option.getD_some, pl84]
  simp only [go_sem]
  refine c_graph (p := p) h ?_
  simp only [go_sem]
  refine c_where (p := p) (w := w) (v := v) (t := p.2.2.1) h.small h.e1 h.e2 (by rw [h.start]; omega) ?_
  rw [sm_many h]
  simp only [go_sem]
  have h2 := two_pos (w * v)
  refine c_reached (g := gOf w v p.2.2.2) (ss := those w v p.2.2.1 (2 ^ (w * v))) (gOf_ok h.ok) (by rw [gOf_len]; omega) (by rw [gOf_len]; omega) (gOf_small h.len) (fun x hx => by rw [gOf_len]; exact those_in x hx) (Nat.le_trans those_len (by omega)) ?_
  simp only [go_sem]
  rfl
end Go.Proofs.YteegphdelekdaaaGreat

set_option linter.unusedVariables false
set_option linter.unusedSimpArgs false
namespace Go.Proofs.YteegphdelekdaaaGreat
open Go.Abs Go.IntWalk
set_option maxRecDepth 100000
attribute [local go_sem] eI eU eNs eN cN eChs eCh cCh eCos eCo cCo eP take_map eII
/-! What is reached, by the reference. -/
theorem canon_small {n : Nat} {l : List Int} (h : ∀ x ∈ l, inN n x) : (canon l).length ≤ n := inc_len (inc_canon l) fun x hx => h x (mem_canon.1 hx)
theorem c_own {l : List Int} (hl : l.length ≤ 1000000) {H : Heap} {K : AV → Heap → Prop} (hK : K (eI l) H) : ACall Tryz.prog 127 [eI l] H K := by
  refine ACall.pure (R := fun r H' => ∃ v, r = .ref 3 v 0 l.length ∧ H' 3 = .cells v 3 1 (l.map I64)) rfl ?_ fun r H' h => by obtain ⟨v, rfl, h⟩ := h; exact ⟨_, resI rfl rfl h, rfl, hK⟩
  refine call127 (by simp) ?_
  simp only [Tryz.results127, Tryz.ntmps127, Tryz.f127, Option.getD_some, pl127]
  simp only [go_sem, flI, scI]
  exact ⟨by omega, _, rfl, rfl⟩
theorem c_union {a b : List Int} {n : Nat} (hn : n ≤ 1000) (ha : inc a) (hai : ∀ x ∈ a, inN n x) (hbi : ∀ x ∈ b, inN n x) (hbl : b.length ≤ 1000) {H : Heap} {K : AV → Heap → Prop} (hK : K (eI (uni a b)) H) : ACall Tryz.prog 87 [eI a, eI b] H K := by
  refine pureC rfl rfl ?_ hK
  refine call87 (by simp) ?_
  simp only [Tryz.results87, Tryz.ntmps87, Tryz.f87, Option.getD_some, pl87]
  have hal := inc_len ha hai
  simp only [go_sem]
  refine c_own (l := a) (by omega) ?_
  simp only [go_sem]
  refine ALoop.intro (pl := pl87) (fun k env H => ∃ i : Nat, env 5 = eI (canon (a ++ b.take i)) ∧ env 10 = eI b ∧ env 11 = I64 b.length ∧ env 12 = I64 i ∧ i + k = b.length) b.length (by kernel_rfl) ?_ ?_
  · simp only [go_sem]
    exact ⟨0, by rw [List.take_zero, List.append_nil, canon_inc ha], rfl, by omega⟩
  · rintro k env H ⟨i, e5, e10, e11, e12, hk⟩
    by_cases hz : (i : Int) < b.length
    · obtain ⟨x, hx⟩ := get_some (l := b) (i := i) (by omega)
      have h0 : (0 : Int) ≤ i := by omega
      have hwi : IntKind.wrap .i64 ((i : Int) + 1) = i + 1 := i64_in _ (by omega)
      have hcs := canon_small (n := n) (l := a ++ b.take i) fun y hy => (List.mem_append.1 hy).elim (hai y) fun h => hbi y (List.mem_of_mem_take h)
      simp only [go_sem, pl87, e5, e10, e11, e12, hz, hx, h0]
      refine c_put (x := x) (l := canon (a ++ b.take i)) (.inr rfl) (by omega) ?_
      simp only [go_sem, pl87, e5, e10, e11, e12, hz, hx, h0, hwi]
      exact ⟨k - 1, by omega, i + 1, by rw [take_one hx, ← List.append_assoc, canon_app], rfl, by omega⟩
    · simp only [go_sem, pl87, e5, e10, e11, e12, hz]
      rw [List.take_of_length_le (by omega)]
      rfl
theorem c_after8 {p : PProg} {w v : Nat} (h : Sm p w v) {l : List Int} (hl : ∀ x ∈ l, inN (2 ^ (w * v)) x) (hll : l.length ≤ 1000) {H : Heap} {K : AV → Heap → Prop} (hK : K (eI (aft (gOf w v p.2.2.2) l)) H) : ACall Tryz.prog 88 [eP p, eI l] H K := by
  generalize hg : gOf w v p.2.2.2 = g at hK
  have hgl : g.length = 2 ^ (w * v) := by rw [← hg]; exact gOf_len
  have hgo : okG g := by rw [← hg]; exact gOf_ok h.ok
  have hn32 := h.n32
  refine ACall.pure (R := fun r _ => IsI r (aft g l)) rfl ?_ ?_
  · refine call88 (by simp) ?_
    simp only [Tryz.results88, Tryz.ntmps88, Tryz.f88, Option.getD_some, pl88]
    simp only [go_sem]
    refine ALoop.intro (pl := pl88) (fun k env H => ∃ (i v2 : Nat) (a : AV), env 2 = .ptr 2 v2 0 ∧ env 5 = a ∧ env 10 = eI l ∧ env 11 = I64 l.length ∧ env 12 = I64 i ∧ H 2 = .cells v2 36 1 [I64 p.1, I64 p.2.1, eNs p.2.2.1, eCos p.2.2.2] ∧ IsI a (canon ((l.take i).flatMap (sucs g))) ∧ i + k = l.length) l.length (by kernel_rfl) ?_ ?_
    · simp only [go_sem]
      exact ⟨0, _, _, rfl, rfl, rfl, rfl, .inl ⟨rfl, rfl⟩, by omega⟩
    · rintro k env H ⟨i, v2, a, e2, e5, e10, e11, e12, b2, ha, hk⟩
      by_cases hz : (i : Int) < l.length
      · obtain ⟨x, hx⟩ := get_some (l := l) (i := i) (by omega)
        have h0 : (0 : Int) ≤ i := by omega
        have hwi : IntKind.wrap .i64 ((i : Int) + 1) = i + 1 := i64_in _ (by omega)
        have hxn := hl x (List.mem_of_getElem? hx)
        have hsx : sucs g x = nextL w v p.2.2.2 x.toNat := by rw [← hg]; exact gOf_suc hxn
        obtain ⟨n, rfl⟩ : ∃ n : Nat, x = n := ⟨x.toNat, by have := hxn.1; omega⟩
        rw [Int.toNat_natCast] at hsx
        have hsl : (sucs g (n : Int)).length ≤ 6 := by rw [hsx]; exact nextL_len h.len
        simp only [go_sem, pl88, e2, e5, e10, e11, e12, b2, hz, hx, h0]
        refine c_nextS (p := p) h (no := n) (by have := hxn.2; omega) ?_
        rw [← hsx]
        delta eI
        simp only [go_sem, pl88, e2, e5, e10, e11, e12, b2, hz, hx, h0]
        refine ALoop.intro (pl := pl88) (fun k1 env H => ∃ (j : Nat) (a : AV), env 2 = .ptr 2 v2 0 ∧ env 5 = a ∧ env 10 = eI l ∧ env 11 = I64 l.length ∧ env 12 = I64 i ∧ env 18 = eI (sucs g n) ∧ env 19 = I64 (sucs g n).length ∧ env 20 = I64 j ∧ H 2 = .cells v2 36 1 [I64 p.1, I64 p.2.1, eNs p.2.2.1, eCos p.2.2.2] ∧ IsI a (canon ((l.take i).flatMap (sucs g) ++ (sucs g n).take j)) ∧ j + k1 = (sucs g n).length) (sucs g n).length (by kernel_rfl) ?_ ?_
        · simp only [go_sem, e2, e5, e10, e11, e12, b2]
          exact ⟨0, a, rfl, rfl, by rw [List.take_zero, List.append_nil]; exact ha, by omega⟩
        · rintro k1 env H ⟨j, a, e2, e5, e10, e11, e12, e18, e19, e20, b2, ha, hk1⟩
          by_cases hz1 : (j : Int) < (sucs g n).length
          · obtain ⟨y, hy⟩ := get_some (l := sucs g n) (i := j) (by omega)
            have h01 : (0 : Int) ≤ j := by omega
            have hwj : IntKind.wrap .i64 ((j : Int) + 1) = j + 1 := i64_in _ (by omega)
            have hcs := canon_small (n := g.length) (l := (l.take i).flatMap (sucs g) ++ (sucs g n).take j) fun z hz => by
              rcases List.mem_append.1 hz with hz | hz
              · obtain ⟨q, _, hq⟩ := List.mem_flatMap.1 hz
                exact suc_in hgo hq
              · exact suc_in hgo (List.mem_of_mem_take hz)
            simp only [go_sem, pl88, e2, e5, e10, e11, e12, e18, e19, e20, b2, hz1, hy, h01]
            refine c_put (x := y) ha (by omega) ?_
            simp only [go_sem, pl88, e2, e5, e10, e11, e12, e18, e19, e20, b2, hz1, hy, h01, hwj]
            refine ⟨k1 - 1, by omega, j + 1, _, rfl, rfl, .inr ?_, by omega⟩
            rw [take_one hy, ← List.append_assoc, canon_app]
            rfl
          · simp only [go_sem, pl88, e2, e5, e10, e11, e12, e18, e19, e20, b2, hz1, hwi]
            rw [List.take_of_length_le (l := sucs g n) (by omega)] at ha
            refine ⟨k - 1, by omega, i + 1, v2, a, rfl, rfl, rfl, rfl, ?_, by omega⟩
            rw [take_one hx, List.flatMap_append]
            simpa using ha
      · simp only [go_sem, pl88, e2, e5, e10, e11, e12, b2, hz]
        rw [List.take_of_length_le (by omega)] at ha
        exact ha
  · rintro r H' (⟨rfl, e⟩ | rfl)
    · rw [e] at hK
      exact ⟨_, .frz _ _ (.nil 1), rfl, hK⟩
    · exact ⟨_, .cl rfl, rfl, hK⟩
theorem aft_in {g : List (List Int)} (hg : okG g) {l : List Int} : ∀ x ∈ aft g l, inN g.length x := fun x hx => by
  obtain ⟨y, _, hy⟩ := mem_aft.1 hx
  exact suc_in hg hy
theorem c_reachS {p : PProg} {w v : Nat} (h : Sm p w v) {H : Heap} {K : AV → Heap → Prop} (hK : K (eI (reachP p w v)) H) : ACall Tryz.prog 78 [eP p] H K := by
  generalize hg : gOf w v p.2.2.2 = g
  generalize hst : those w v p.2.2.1 (2 ^ (w * v)) = ss
  have hgl : g.length = 2 ^ (w * v) := by rw [← hg]; exact gOf_len
  have hgo : okG g := by rw [← hg]; exact gOf_ok h.ok
  have hn32 := h.n32
  have hsi : inc ss := by rw [← hst]; exact inc_those
  have hsin : ∀ x ∈ ss, inN g.length x := by rw [← hst, hgl]; exact those_in
  have hres : reachP p w v = reachL g ss := by unfold reachP; rw [hg, hst]
  refine pureC rfl rfl ?_ hK
  rw [hres]
  refine call78 (by simp) ?_
  simp only [Tryz.results78, Tryz.ntmps78, Tryz.f78, Option.getD_some, pl78]
  simp only [go_sem]
  refine c_those (p := p) (w := w) (v := v) (t := p.2.2.1) h.small h.e1 h.e2 (by rw [h.start]; omega) ?_
  rw [sm_many h, hst]
  simp only [go_sem]
  refine ALoop.intro (pl := pl78) (fun k env H => ∃ (m v1 : Nat), env 1 = .ptr 1 v1 0 ∧ env 3 = eI (lv g ss m) ∧ H 1 = .cells v1 36 1 [I64 p.1, I64 p.2.1, eNs p.2.2.1, eCos p.2.2.2] ∧ g.length ≤ (lv g ss m).length + k) g.length (by kernel_rfl) ?_ ?_
  · simp only [go_sem]
    exact ⟨0, _, rfl, rfl, rfl, by omega⟩
  · rintro k env H ⟨m, v1, e1, e3, b1, hk⟩
    have hml := lv_len hgo hsi hsin m
    have hml2 := lv_len hgo hsi hsin (m + 1)
    have hmi : ∀ x ∈ lv g ss m, inN g.length x := fun x hx => Wk_in hgo hsin (mem_lv.1 hx)
    have hgr := lv_grow (g := g) hsi m
    simp only [go_sem, pl78, e1, e3, b1]
    refine c_after8 (p := p) h (l := lv g ss m) (by rw [← hgl]; exact hmi) (by omega) ?_
    rw [hg]
    simp only [go_sem, pl78, e1, e3, b1]
    refine c_union (a := lv g ss m) (b := aft g (lv g ss m)) (n := g.length) (by omega) (inc_lv hsi m) hmi (aft_in hgo) (Nat.le_trans (inc_len (inc_canon _) (aft_in hgo)) (by omega)) ?_
    rw [show uni (lv g ss m) (aft g (lv g ss m)) = lv g ss (m + 1) from rfl]
    delta eI
    by_cases he : ((lv g ss (m + 1)).length : Int) = ((lv g ss m).length : Int)
    · have hr := lv_reach (g := g) hsi (k := m) (by omega)
      simp only [go_sem, pl78, e1, e3, b1, he]
      rw [hr]
    · simp only [go_sem, pl78, e1, e3, b1, he]
      exact ⟨k - 1, by omega, m + 1, v1, rfl, rfl, rfl, by omega⟩
end Go.Proofs.YteegphdelekdaaaGreat
