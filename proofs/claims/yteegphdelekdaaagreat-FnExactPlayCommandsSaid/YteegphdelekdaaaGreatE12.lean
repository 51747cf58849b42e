/- Texts of ours, joined: YteegphdelekdaaaGreatH57 YteegphdelekdaaaGreatH58 YteegphdelekdaaaGreatH59 YteegphdelekdaaaGreatH65 YteegphdelekdaaaGreatH66. -/
import Derived.Test.YteegphdelekdaaaGreatE11
set_option linter.unusedVariables false
set_option linter.unusedSimpArgs false
namespace Go.Abs
variable {P : Program}
/-- Nil cells of a block of ours, each a block of its own from now on. -/
theorem ALoop.thawN {N v Tb T b base n : Nat} {x : Code} {Q : Exit → Env → Heap → Prop} {env : Env} (hb : b < base) : ∀ (k m : Nat) (cs : List AV) (H : Heap), m + k = n → H b = .cells v Tb 1 cs → (∀ i, m ≤ i → i < n → cs[i]? = some .nil) →
    (∀ (H' : Heap) (cs' : List AV), cs'.length = cs.length → (∀ i, i < m ∨ n ≤ i → cs'[i]? = cs[i]?) → (∀ i, m ≤ i → i < n → ∃ ver, cs'[i]? = some (.ref (base + i) ver 0 0) ∧ H' (base + i) = .cells ver T 1 []) → (∀ i, i < base + m ∨ base + n ≤ i → i ≠ b → H' i = H i) → H' b = .cells v Tb 1 cs' → ALoop P N x Q env H') → ALoop P N x Q env H := by
  intro k
  induction k with
  | zero =>
    intro m cs H hm hH hn h
    exact h H cs rfl (fun _ _ => rfl) (fun i h1 h2 => by omega) (fun _ _ _ => rfl) hH
  | succ k ih =>
    intro m cs H hm hH hn h
    have hml : m < cs.length := (List.getElem?_eq_some_iff.1 (hn m (Nat.le_refl _) (by omega))).1
    refine ALoop.thawCell b m (base + m) T 1 hH (hn m (Nat.le_refl _) (by omega)) (by omega) ?_
    refine ih (m + 1) (cs.set m (.ref (base + m) ((H (base + m)).ver + 1) 0 0)) _ (by omega) (upd_same ..) (fun i h1 h2 => ?_) fun H' cs' h1 h2 h3 h4 h5 => ?_
    · rw [List.getElem?_set_ne (by omega)]; exact hn i (by omega) h2
    · refine h H' cs' (by rw [h1, List.length_set]) (fun i hi => ?_) (fun i hi1 hi2 => ?_) (fun i hi hib => ?_) h5
      · rw [h2 i (by omega), List.getElem?_set_ne (by omega)]
      · by_cases e : i = m
        · subst e
          refine ⟨(H (base + i)).ver + 1, ?_, ?_⟩
          · rw [h2 i (by omega), List.getElem?_set_self hml]
          · rw [h4 (base + i) (by omega) (by omega), upd_ne _ _ (by omega), upd_same]
        · exact h3 i (by omega) hi2
      · rw [h4 i (by omega) hib, upd_ne _ _ hib, upd_ne _ _ (by omega)]
end Go.Abs
namespace Go.Proofs.YteegphdelekdaaaGreat
open Go.Abs Go.IntWalk
set_option maxRecDepth 100000
attribute [local go_sem] eI eU eNs eN cN eChs eCh cCh eCos eCo cCo eP take_map eII
/-! A graph turned around. -/
/-- So far: the edges out of the vertices below i, and the first j out of i. -/
structure TI (g out : List (List Int)) (i j : Nat) : Prop where
  len : out.length = g.length
  mem : ∀ x y, inN g.length x → (y ∈ sucs out x ↔ (inN i y ∧ x ∈ sucs g y) ∨ (y = (i : Int) ∧ x ∈ (sucs g i).take j))
  bnd : ∀ x, inN g.length x → (sucs out x).length ≤ 1000 * i + j
theorem sucs_set {out : List (List Int)} {n : Nat} {x w : Int} {l : List Int} (hn : out.length = n) (hw : inN n w) (hx : inN n x) : sucs (out.set w.toNat l) x = if x = w then l else sucs out x := by
  unfold sucs inN at *
  rw [List.getElem?_set]
  by_cases e : x = w
  · subst e
    rw [if_pos rfl, if_pos (by omega)]; simp
  · rw [if_neg (by omega), if_neg e]
theorem TI.start (g : List (List Int)) : TI g (List.replicate g.length []) 0 0 := by
  have e : ∀ x, sucs (List.replicate g.length []) x = [] := fun x => by
    unfold sucs
    rw [List.getElem?_replicate]
    split <;> rfl
  refine ⟨by simp, fun x y hx => ?_, fun x hx => by rw [e]; simp⟩
  rw [e]
  simp [inN]
  omega
theorem TI.step {g out : List (List Int)} {i j : Nat} {w : Int} (h : TI g out i j) (hw : inN g.length w) (hj : (sucs g i)[j]? = some w) : TI g (out.set w.toNat (sucs out w ++ [(i : Int)])) i (j + 1) := by
  have hs : ∀ x, inN g.length x → sucs (out.set w.toNat (sucs out w ++ [(i : Int)])) x = if x = w then sucs out w ++ [(i : Int)] else sucs out x := fun x hx => sucs_set h.len hw hx
  have ht : (sucs g i).take (j + 1) = (sucs g i).take j ++ [w] := by rw [List.take_add_one, hj]; rfl
  refine ⟨by rw [List.length_set]; exact h.len, fun x y hx => ?_, fun x hx => ?_⟩
  · rw [hs x hx, ht]
    by_cases e : x = w
    · subst e
      rw [if_pos rfl, List.mem_append, h.mem x y hx, List.mem_append, List.mem_singleton]
      simp only [List.mem_singleton]
      constructor
      · rintro ((h | h) | h)
        · exact .inl h
        · exact .inr ⟨h.1, .inl h.2⟩
        · exact .inr ⟨h, .inr trivial⟩
      · rintro (h | ⟨h1, _⟩)
        · exact .inl (.inl h)
        · exact .inr h1
    · rw [if_neg e, h.mem x y hx, List.mem_append, List.mem_singleton]
      simp only [e, or_false]
  · rw [hs x hx]
    have := h.bnd x hx
    have h2 := h.bnd w hw
    split
    · rw [List.length_append, List.length_singleton]; omega
    · omega
theorem TI.next {g out : List (List Int)} {i : Nat} (hl : (sucs g i).length ≤ 1000) (h : TI g out i (sucs g i).length) : TI g out (i + 1) 0 := by
  refine ⟨h.len, fun x y hx => ?_, fun x hx => by have := h.bnd x hx; omega⟩
  rw [h.mem x y hx, List.take_length]
  simp only [List.take_zero, List.not_mem_nil, and_false, or_false]
  unfold inN
  constructor
  · rintro (⟨h1, h2⟩ | ⟨h1, h2⟩)
    · exact ⟨by omega, h2⟩
    · subst h1; exact ⟨by omega, h2⟩
  · rintro ⟨h1, h2⟩
    by_cases e : y = (i : Int)
    · subst e; exact .inr ⟨rfl, h2⟩
    · exact .inl ⟨by omega, h2⟩
/-- A graph turned around: the edges the other way. -/
structure Turned (g h : List (List Int)) : Prop where
  len : h.length = g.length
  mem : ∀ x y, inN g.length x → (y ∈ sucs h x ↔ inN g.length y ∧ x ∈ sucs g y)
  bnd : ∀ l ∈ h, l.length ≤ 100000
  ok : okG h
theorem TI.turned {g out : List (List Int)} (hn : g.length ≤ 90) (h : TI g out g.length 0) : Turned g out := by
  have hm : ∀ x y, inN g.length x → (y ∈ sucs out x ↔ inN g.length y ∧ x ∈ sucs g y) := fun x y hx => by rw [h.mem x y hx]; simp
  have hat : ∀ l ∈ out, ∃ x, inN g.length x ∧ l = sucs out x := fun l hl => by
    obtain ⟨i, hi, e⟩ := List.getElem_of_mem hl
    refine ⟨(i : Int), by unfold inN; rw [← h.len]; omega, ?_⟩
    unfold sucs
    rw [Int.toNat_natCast, List.getElem?_eq_getElem hi, e]; rfl
  refine ⟨h.len, hm, fun l hl => ?_, fun l hl y hy => ?_⟩
  · obtain ⟨x, hx, rfl⟩ := hat l hl
    have := h.bnd x hx
    omega
  · obtain ⟨x, hx, rfl⟩ := hat l hl
    rw [h.len]
    exact ((hm x y hx).1 hy).1
/-- The cells of the turned graph, its lists under the names from 1000000. -/
def tcells (H : Heap) (out : List (List Int)) : List AV := (List.range out.length).map fun x => .ref (1000000 + x) (H (1000000 + x)).ver 0 (sucs out (x : Nat)).length
def atT (H : Heap) (out : List (List Int)) : Prop := ∀ x : Nat, x < out.length → ∃ v, H (1000000 + x) = .cells v 3 1 ((sucs out (x : Nat)).map I64)
theorem tc_get {H : Heap} {out : List (List Int)} {x : Nat} (h : x < out.length) : (tcells H out)[x]? = some (.ref (1000000 + x) (H (1000000 + x)).ver 0 (sucs out (x : Nat)).length) := by
  unfold tcells
  rw [List.getElem?_map, List.getElem?_range h]; rfl
theorem tc_len {H : Heap} {out : List (List Int)} : (tcells H out).length = out.length := by simp [tcells]
end Go.Proofs.YteegphdelekdaaaGreat

set_option linter.unusedVariables false
set_option linter.unusedSimpArgs false
namespace Go.Proofs.YteegphdelekdaaaGreat
open Go.Abs Go.IntWalk
set_option maxRecDepth 100000
attribute [local go_sem] eI eU eNs eN cN eChs eCh cCh eCos eCo cCo eP take_map eII
theorem tc_congr {H H' : Heap} {out : List (List Int)} (h : ∀ x : Nat, x < out.length → H' (1000000 + x) = H (1000000 + x)) : tcells H' out = tcells H out := by
  unfold tcells
  refine List.map_congr_left fun x hx => ?_
  rw [h x (List.mem_range.1 hx)]
theorem atT_congr {H H' : Heap} {out : List (List Int)} (h : ∀ x : Nat, x < out.length → H' (1000000 + x) = H (1000000 + x)) (ha : atT H out) : atT H' out := fun x hx => by rw [h x hx]; exact ha x hx
/-- One edge more. -/
theorem tc_put {H H' : Heap} {out : List (List Int)} {w : Nat} {l : List Int} {ver : Nat} (hw : w < out.length) (h : ∀ x : Nat, x < out.length → x ≠ w → H' (1000000 + x) = H (1000000 + x)) (hv : H' (1000000 + w) = .cells ver 3 1 (l.map I64)) (ha : atT H out) :
    tcells H' (out.set w l) = (tcells H out).set w (.ref (1000000 + w) ver 0 l.length) ∧ atT H' (out.set w l) := by
  have hs : ∀ x : Nat, x < out.length → sucs (out.set w l) (x : Nat) = if x = w then l else sucs out (x : Nat) := fun x hx => by
    unfold sucs
    rw [Int.toNat_natCast, List.getElem?_set]
    by_cases e : x = w
    · subst e; rw [if_pos rfl, if_pos hx, if_pos rfl]; rfl
    · rw [if_neg (Ne.symm e), if_neg e]
  constructor
  · apply List.ext_getElem?
    intro x
    by_cases hx : x < out.length
    · rw [tc_get (by rw [List.length_set]; exact hx), hs x hx, List.getElem?_set]
      by_cases e : x = w
      · subst e
        rw [if_pos rfl, if_pos rfl, if_pos (by rw [tc_len]; exact hx), hv]; rfl
      · rw [if_neg e, if_neg (Ne.symm e), tc_get hx, h x hx e]
    · rw [List.getElem?_eq_none (by rw [tc_len, List.length_set]; omega), List.getElem?_eq_none (by rw [List.length_set, tc_len]; omega)]
  · intro x hx
    rw [List.length_set] at hx
    rw [hs x hx]
    by_cases e : x = w
    · subst e; rw [if_pos rfl]; exact ⟨ver, hv⟩
    · rw [if_neg e, h x hx e]; exact ha x hx
theorem c_turned {g : List (List Int)} (hg : okG g) (hn1 : 1 ≤ g.length) (hn2 : g.length ≤ 90) (hgl : ∀ l ∈ g, l.length ≤ 1000) {H : Heap} {K : AV → Heap → Prop} (hK : ∀ h, Turned g h → K (eII h) H) : ACall Tryz.prog 100 [eII g] H K := by
  refine ACall.pure (R := fun r H' => ∃ v out, r = .ref 10 v 0 g.length ∧ H' 10 = .cells v 27 1 (tcells H' out) ∧ atT H' out ∧ Turned g out) rfl ?_ ?_
  · refine call100 (by simp) ?_
    simp only [Tryz.results100, Tryz.ntmps100, Tryz.f100, Option.getD_some, pl100]
    have r1 : reps g.length [AV.nil] = List.replicate g.length AV.nil := by
      unfold reps
      split
      · rename_i h0; injection h0 with h0; rw [← h0]
      · rename_i h0; exact absurd rfl (h0 _)
    simp only [go_sem, r1]
    refine ⟨by omega, Int.le_refl _, by omega, by omega, ?_⟩
    refine ALoop.thawN (b := 10) (base := 1000000) (n := g.length) (T := 3) (by omega) g.length 0 (List.replicate g.length .nil) _ (by omega) (by simp only [go_sem]; rfl) (fun i _ hi => by rw [List.getElem?_replicate, if_pos hi]) fun H' cs' hcl hc1 hc2 hc3 hc4 => ?_
    rw [List.length_replicate] at hcl
    refine ALoop.intro (pl := pl100) (fun k env H => ∃ (i v : Nat) (out : List (List Int)), env 3 = .ref 10 v 0 g.length ∧ env 11 = eII g ∧ env 12 = I64 g.length ∧ env 13 = I64 i ∧ H 10 = .cells v 27 1 (tcells H out) ∧ atT H out ∧ TI g out i 0 ∧ i + k = g.length) g.length (by kernel_rfl) ?_ ?_
    · simp only [go_sem]
      have hat : atT H' (List.replicate g.length []) := fun x hx => by
        rw [List.length_replicate] at hx
        obtain ⟨ver, h1, h2⟩ := hc2 x (Nat.zero_le _) hx
        refine ⟨ver, ?_⟩
        rw [h2]
        have : sucs (List.replicate g.length []) (x : Nat) = [] := by unfold sucs; rw [Int.toNat_natCast, List.getElem?_replicate, if_pos hx]; rfl
        rw [this]; rfl
      have htc : tcells H' (List.replicate g.length []) = cs' := by
        apply List.ext_getElem?
        intro x
        by_cases hx : x < g.length
        · obtain ⟨ver, h1, h2⟩ := hc2 x (Nat.zero_le _) hx
          have : sucs (List.replicate g.length []) (x : Nat) = [] := by unfold sucs; rw [Int.toNat_natCast, List.getElem?_replicate, if_pos hx]; rfl
          rw [tc_get (by rw [List.length_replicate]; exact hx), h1, h2, this]; rfl
        · rw [List.getElem?_eq_none (by rw [tc_len, List.length_replicate]; omega), List.getElem?_eq_none (by omega)]
      exact ⟨0, _, List.replicate g.length [], rfl, rfl, by rw [htc]; exact hc4, hat, TI.start g, by omega⟩
    · rintro k env H ⟨i, v, out, e3, e11, e12, e13, b10, ha, hT, hk⟩
      by_cases hz : (i : Int) < g.length
      · have h0 : (0 : Int) ≤ i := by omega
        have hwi : IntKind.wrap .i64 ((i : Int) + 1) = i + 1 := i64_in _ (by omega)
        have hgi := suc_at (g := g) (x := (i : Int)) (by unfold inN; omega)
        rw [Int.toNat_natCast] at hgi
        have hsl : (sucs g (i : Int)).length ≤ 1000 := hgl _ (List.mem_of_getElem? hgi)
        simp only [go_sem, pl100, e3, e11, e12, e13, b10, hz, h0, hgi]
        refine ALoop.intro (pl := pl100) (fun k1 env H => ∃ (j v : Nat) (out : List (List Int)), env 3 = .ref 10 v 0 g.length ∧ env 4 = I64 i ∧ env 11 = eII g ∧ env 12 = I64 g.length ∧ env 13 = I64 i ∧ env 18 = eI (sucs g i) ∧ env 19 = I64 (sucs g i).length ∧ env 20 = I64 j ∧ H 10 = .cells v 27 1 (tcells H out) ∧ atT H out ∧ TI g out i j ∧ j + k1 = (sucs g i).length) (sucs g i).length (by kernel_rfl) ?_ ?_
        · simp only [go_sem, e3, e11, e12, e13, b10]
          exact ⟨0, v, out, rfl, rfl, rfl, ha, hT, by omega⟩
        · rintro k1 env H ⟨j, v, out, e3, e4, e11, e12, e13, e18, e19, e20, b10, ha, hT, hk1⟩
          by_cases hz1 : (j : Int) < (sucs g i).length
          · obtain ⟨y, hy⟩ := get_some (l := sucs g i) (i := j) (by omega)
            have hyn := suc_in hg (List.mem_of_getElem? hy)
            obtain ⟨w, rfl⟩ : ∃ w : Nat, y = w := ⟨y.toNat, by have := hyn.1; omega⟩
            have hwl : w < out.length := by rw [hT.len]; have := hyn.2; omega
            have hstep := hT.step hyn hy
            rw [Int.toNat_natCast] at hstep
            obtain ⟨vw, hvw⟩ := ha w hwl
            have hcell := tc_get (H := H) hwl
            rw [hvw] at hcell
            simp only [Blk.ver] at hcell
            have hlb := hT.bnd w hyn
            have h01 : (0 : Int) ≤ j := by omega
            have hwj : IntKind.wrap .i64 ((j : Int) + 1) = j + 1 := i64_in _ (by omega)
            have hw0 : (0 : Int) ≤ (w : Int) := by omega
            have hw1 : (w : Int) < g.length := hyn.2
            have htl : (tcells H out).length = g.length := by rw [tc_len, hT.len]
            have n1 : (1000000 + w = 31) = False := eq_false (by omega)
            have n2 : (1000000 + w = 10) = False := eq_false (by omega)
            have n3 : (10 = 1000000 + w) = False := eq_false (by omega)
            have n4 : (31 = 1000000 + w) = False := eq_false (by omega)
            simp only [go_sem, pl100, e3, e4, e11, e12, e13, e18, e19, e20, b10, hz1, hy, h01, hwj, hw0, hw1, hcell, hvw, n1, n2, n3, n4, htl]
            refine ⟨by omega, by omega, k1 - 1, by omega, j + 1, v, out.set w (sucs out (w : Int) ++ [(i : Int)]), rfl, rfl, ?_, ?_, hstep, by omega⟩
            · refine congrArg (Blk.cells v 27 1) ?_
              refine ((tc_put (H := H) (l := sucs out (w : Int) ++ [(i : Int)]) (ver := vw + 1) hwl (fun x hx hne => ?_) ?_ ha).1.trans ?_).symm
              · rw [upd_ne _ _ (by omega), upd_ne _ _ (by omega), upd_ne _ _ (by omega)]
              · rw [upd_ne _ _ (by omega), upd_same, List.map_append]; rfl
              · rw [List.length_append]; rfl
            · refine (tc_put (H := H) (l := sucs out (w : Int) ++ [(i : Int)]) (ver := vw + 1) hwl (fun x hx hne => ?_) ?_ ha).2
              · rw [upd_ne _ _ (by omega), upd_ne _ _ (by omega), upd_ne _ _ (by omega)]
              · rw [upd_ne _ _ (by omega), upd_same, List.map_append]; rfl
          · simp only [go_sem, pl100, e3, e4, e11, e12, e13, e18, e19, e20, b10, hz1, hwi]
            have hj : j = (sucs g (i : Int)).length := by omega
            subst hj
            exact ⟨k - 1, by omega, i + 1, v, out, rfl, rfl, rfl, ha, hT.next hsl, by omega⟩
      · simp only [go_sem, pl100, e3, e11, e12, e13, b10, hz]
        have : i = g.length := by omega
        subst this
        exact ⟨v, out, rfl, rfl, ha, hT.turned hn2⟩
  · rintro r H' ⟨v, out, rfl, h1, h2, ht⟩
    refine ⟨eII out, .frz _ _ (.ref 10 v 0 g.length 27 1 (tcells H' out) (out.map eI) rfl h1 (by rw [List.length_map, ht.len]) (by rw [tc_len, ht.len]; omega) (fun j e he => ?_) fun k x y hx hy => ?_), rfl, hK out ht⟩
    · obtain ⟨l, _, rfl⟩ := List.mem_map.1 (List.mem_of_getElem? he)
      rfl
    · rw [Nat.zero_add] at hx
      have hk : k < out.length := by have := (List.getElem?_eq_some_iff.1 hx).1; rw [tc_len] at this; exact this
      rw [tc_get hk] at hx
      cases hx
      rw [flat_map1 (f := eI) (fun _ => rfl), List.getElem?_map, List.getElem?_eq_getElem hk] at hy
      cases hy
      have e : sucs out (k : Nat) = out[k] := by unfold sucs; rw [Int.toNat_natCast, List.getElem?_eq_getElem hk]; rfl
      obtain ⟨v2, h3⟩ := h2 k hk
      have hver : (H' (1000000 + k)).ver = v2 := by rw [h3]; rfl
      rw [hver]
      rw [e] at h3 ⊢
      exact frI rfl h3
end Go.Proofs.YteegphdelekdaaaGreat

set_option linter.unusedVariables false
set_option linter.unusedSimpArgs false
namespace Go.Proofs.YteegphdelekdaaaGreat
open Go.Abs Go.IntWalk
set_option maxRecDepth 100000
attribute [local go_sem] eI eU eNs eN cN eChs eCh cCh eCos eCo cCo eP take_map eII
/-! What leads to some states. -/
def meetB (a b : List Int) : Bool := a.any fun x => decide (x ∈ b)
theorem meet_yes {a b : List Int} (h : ∃ x, x ∈ a ∧ x ∈ b) : meetB a b = true := by
  obtain ⟨x, h1, h2⟩ := h
  unfold meetB
  rw [List.any_eq_true]
  exact ⟨x, h1, by simpa using h2⟩
theorem meet_no {a b : List Int} (h : ∀ x ∈ a, ¬ x ∈ b) : meetB a b = false := by
  unfold meetB
  rw [List.any_eq_false]
  intro x hx
  simpa using h x hx
theorem c_meetS {a b : List Int} (ha : a.length ≤ 1000) (hb : b.length ≤ 1000) {H : Heap} {K : AV → Heap → Prop} (hK : K (.bool (meetB a b)) H) : ACall Tryz.prog 131 [eI a, eI b] H K := by
  refine pureC rfl rfl ?_ hK
  refine call131 (by simp) ?_
  simp only [Tryz.results131, Tryz.ntmps131, Tryz.f131, Option.getD_some, pl131]
  simp only [go_sem]
  refine ALoop.intro (pl := pl131) (fun k env H => ∃ i : Nat, env 1 = eI b ∧ env 7 = eI a ∧ env 8 = I64 a.length ∧ env 9 = I64 i ∧ i + k = a.length ∧ ∀ x ∈ a.take i, ¬ x ∈ b) a.length (by kernel_rfl) ?_ ?_
  · simp only [go_sem]
    exact ⟨0, by simp⟩
  · rintro k env H ⟨i, e1, e7, e8, e9, hk, ht⟩
    by_cases hz : (i : Int) < a.length
    · obtain ⟨y, hy⟩ := get_some (l := a) (i := i) (by omega)
      have h0 : (0 : Int) ≤ i := by omega
      have hw : IntKind.wrap .i64 ((i : Int) + 1) = i + 1 := i64_in _ (by omega)
      simp only [go_sem, pl131, e1, e7, e8, e9, hz, hy, h0]
      refine c_has (l := b) (x := y) (by omega) ?_
      by_cases hp : y ∈ b
      · simp only [go_sem, pl131, e1, e7, e8, e9, hz, hy, h0, hp]
        rw [meet_yes ⟨y, List.mem_of_getElem? hy, hp⟩]
      · simp only [go_sem, pl131, e1, e7, e8, e9, hz, hy, h0, hp, hw]
        refine ⟨k - 1, by omega, i + 1, rfl, by omega, fun z hz => ?_⟩
        rw [take_one hy] at hz
        rcases List.mem_append.1 hz with hz | hz
        · exact ht z hz
        · rw [List.mem_singleton.1 hz]; exact hp
    · simp only [go_sem, pl131, e1, e7, e8, e9, hz]
      rw [List.take_of_length_le (by omega)] at ht
      rw [meet_no ht]
theorem meet_iff {a b : List Int} : meetB a b = true ↔ ∃ x, x ∈ a ∧ x ∈ b := by
  constructor
  · intro h
    unfold meetB at h
    rw [List.any_eq_true] at h
    obtain ⟨x, h1, h2⟩ := h
    exact ⟨x, h1, by simpa using h2⟩
  · exact meet_yes
def Bk (g : List (List Int)) (ss : List Int) : Nat → Int → Prop
  | 0, x => x ∈ ss
  | k + 1, x => Bk g ss k x ∨ (inN g.length x ∧ ∃ y, y ∈ sucs g x ∧ Bk g ss k y)
theorem Bk_in {g : List (List Int)} {ss : List Int} (hs : ∀ x ∈ ss, inN g.length x) : ∀ {k : Nat} {x : Int}, Bk g ss k x → inN g.length x
  | 0, x, h => hs x h
  | k + 1, x, h => h.elim (Bk_in hs) fun h => h.1
theorem Bk_mono {g : List (List Int)} {ss : List Int} {x : Int} : ∀ {k m : Nat}, k ≤ m → Bk g ss k x → Bk g ss m x := by
  intro k m h hx
  induction h with
  | refl => exact hx
  | step _ ih => exact .inl ih
theorem Wk_Bk {g h : List (List Int)} (ht : Turned g h) {ss : List Int} (hs : ∀ x ∈ ss, inN g.length x) : ∀ {k : Nat} {x : Int}, Wk h ss k x ↔ Bk g ss k x
  | 0, x => Iff.rfl
  | k + 1, x => by
    have ih : ∀ {x : Int}, Wk h ss k x ↔ Bk g ss k x := Wk_Bk ht hs
    simp only [Wk, Bk]
    constructor
    · rintro (h1 | ⟨y, h1, h2⟩)
      · exact .inl (ih.1 h1)
      · have hy := ih.1 h1
        obtain ⟨h3, h4⟩ := (ht.mem y x (Bk_in hs hy)).1 h2
        exact .inr ⟨h3, y, h4, hy⟩
    · rintro (h1 | ⟨h3, y, h4, hy⟩)
      · exact .inl (ih.2 h1)
      · exact .inr ⟨y, ih.2 hy, (ht.mem y x (Bk_in hs hy)).2 ⟨h3, h4⟩⟩
def isBack (g : List (List Int)) (ss R : List Int) : Prop := inc R ∧ ∀ x, x ∈ R ↔ ∃ k, Bk g ss k x
open Classical in
noncomputable def backL (g : List (List Int)) (ss : List Int) : List Int := if h : ∃ R, isBack g ss R then Classical.choose h else []
theorem back_eq {g : List (List Int)} {ss R : List Int} (h : isBack g ss R) : R = backL g ss := by
  have hx : ∃ R, isBack g ss R := ⟨R, h⟩
  unfold backL
  rw [dif_pos hx]
  have h2 := Classical.choose_spec hx
  exact inc_ext h.1 h2.1 fun x => by rw [h.2, h2.2]
theorem reach_back {g h : List (List Int)} (ht : Turned g h) {ss : List Int} (hi : inc ss) (hs : ∀ x ∈ ss, inN g.length x) : reachL h ss = backL g ss := by
  have hs' : ∀ x ∈ ss, inN h.length x := fun x hx => by rw [ht.len]; exact hs x hx
  refine back_eq ⟨inc_reach ht.ok hi hs', fun x => ?_⟩
  rw [mem_reach ht.ok hi hs']
  exact ⟨fun ⟨k, h⟩ => ⟨k, (Wk_Bk ht hs).1 h⟩, fun ⟨k, h⟩ => ⟨k, (Wk_Bk ht hs).2 h⟩⟩
/-- A list that is closed. -/
theorem back_closed {g : List (List Int)} {ss O : List Int} (hi : inc O) (hss : ∀ x ∈ ss, x ∈ O) (hb : ∀ x ∈ O, ∃ k, Bk g ss k x) (hc : ∀ x, inN g.length x → (∃ y, y ∈ sucs g x ∧ y ∈ O) → x ∈ O) : O = backL g ss := by
  refine back_eq ⟨hi, fun x => ⟨hb x, ?_⟩⟩
  rintro ⟨k, hk⟩
  induction k generalizing x with
  | zero => exact hss x hk
  | succ k ih =>
    rcases hk with hk | ⟨h1, y, h2, h3⟩
    · exact ih x hk
    · exact hc x h1 ⟨y, h2, ih y h3⟩
def rising (n : Int) (l : List Int) : Prop := inc l ∧ ∀ x ∈ l, 0 ≤ x ∧ x < n
instance (n : Int) (l : List Int) : Decidable (rising n l) := by unfold rising inc; infer_instance
theorem rising_snoc {n x : Int} {l : List Int} {i : Nat} (h : rising n (l.take i)) (hx : l[i]? = some x) (hin : 0 ≤ x ∧ x < n) (hp : 0 < i → ∃ y, l[i - 1]? = some y ∧ y < x) : rising n (l.take (i + 1)) := by
  rw [take_one hx]
  refine ⟨List.pairwise_append.2 ⟨h.1, by simp, fun a ha b hb => ?_⟩, fun z hz => ?_⟩
  · rw [List.mem_singleton.1 hb]
    by_cases h0 : i = 0
    · subst h0; simp at ha
    · obtain ⟨y, hy, hyx⟩ := hp (by omega)
      obtain ⟨j, rfl⟩ : ∃ j, i = j + 1 := ⟨i - 1, by omega⟩
      rw [Nat.add_sub_cancel] at hy
      have h1 := h.1
      rw [take_one hy] at ha h1
      rcases List.mem_append.1 ha with ha | ha
      · have := (List.pairwise_append.1 h1).2.2 a ha y (by simp)
        omega
      · rw [List.mem_singleton.1 ha]; exact hyx
  · rcases List.mem_append.1 hz with hz | hz
    · exact h.2 z hz
    · rw [List.mem_singleton.1 hz]; exact hin
theorem rising_prev {n x y : Int} {l : List Int} {i : Nat} (h : rising n l) (hx : l[i]? = some x) (hy : l[i - 1]? = some y) (h0 : 0 < i) : y < x := by
  obtain ⟨h1, h2⟩ := List.getElem?_eq_some_iff.1 hx
  obtain ⟨h3, h4⟩ := List.getElem?_eq_some_iff.1 hy
  have := List.pairwise_iff_getElem.1 h.1 (i - 1) i h3 h1 (by omega)
  rw [h2, h4] at this
  exact this
theorem c_incI {l : List Int} {n : Int} (hl : l.length ≤ 1000000000) {H : Heap} {K : AV → Heap → Prop} (hK : K (.bool (decide (rising n l))) H) : ACall Tryz.prog 97 [eI l, I64 n] H K := by
  refine pureC rfl rfl ?_ hK
  refine call97 (by simp) ?_
  simp only [Tryz.results97, Tryz.ntmps97, Tryz.f97, Option.getD_some, pl97]
  simp only [go_sem]
  refine ALoop.intro (pl := pl97) (fun k env H => ∃ i : Nat, env 0 = eI l ∧ env 1 = I64 n ∧ env 7 = eI l ∧ env 8 = I64 l.length ∧ env 9 = I64 i ∧ i + k = l.length ∧ rising n (l.take i)) l.length (by kernel_rfl) ?_ ?_
  · simp only [go_sem]
    exact ⟨0, rfl, by omega, by simp [rising, inc]⟩
  · rintro k env H ⟨i, e0, e1, e7, e8, e9, hk, ht⟩
    by_cases hz : (i : Int) < l.length
    · obtain ⟨x, hx⟩ := get_some (l := l) (i := i) (by omega)
      have h0 : (0 : Int) ≤ i := by omega
      have hw : IntKind.wrap .i64 ((i : Int) + 1) = i + 1 := i64_in _ (by omega)
      have nope : ¬ (0 ≤ x ∧ x < n) → AV.bool false = AV.bool (decide (rising n l)) := fun h => bF fun e => h (e.2 x (List.mem_of_getElem? hx))
      by_cases q1 : x < 0
      · simp only [go_sem, pl97, e0, e1, e7, e8, e9, hz, hx, h0, q1]
        exact nope (by omega)
      by_cases q2 : n ≤ x
      · simp only [go_sem, pl97, e0, e1, e7, e8, e9, hz, hx, h0, q1, q2]
        exact nope (by omega)
      by_cases qi : 0 < (i : Int)
      · obtain ⟨y, hy⟩ := get_some (l := l) (i := i - 1) (by omega)
        have hwp : IntKind.wrap .i64 ((i : Int) - 1) = ((i - 1 : Nat) : Int) := (i64_in _ (by omega)).trans (by omega)
        have hp00 : (0 : Int) ≤ ((i - 1 : Nat) : Int) := by omega
        by_cases q3 : x ≤ y
        · simp only [go_sem, pl97, e0, e1, e7, e8, e9, hz, hx, h0, q1, q2, qi, hwp, hp00, hy, q3]
          exact bF fun e => by have := rising_prev e hx hy (by omega); omega
        · simp only [go_sem, pl97, e0, e1, e7, e8, e9, hz, hx, h0, q1, q2, qi, hwp, hp00, hy, q3, hw]
          exact ⟨k - 1, by omega, i + 1, rfl, by omega, rising_snoc ht hx (by omega) fun _ => ⟨y, hy, by omega⟩⟩
      · simp only [go_sem, pl97, e0, e1, e7, e8, e9, hz, hx, h0, q1, q2, qi, hw]
        exact ⟨k - 1, by omega, i + 1, rfl, by omega, rising_snoc ht hx (by omega) fun h => absurd h (by omega)⟩
    · simp only [go_sem, pl97, e0, e1, e7, e8, e9, hz]
      rw [List.take_of_length_le (by omega)] at ht
      exact bT ht
theorem c_risingS {l : List Int} {n : Int} (hn : -9000000000000000000 ≤ n ∧ n ≤ 9000000000000000000) (hl : l.length ≤ 1000000000) {H : Heap} {K : AV → Heap → Prop} (hK : K (.bool (decide (rising (n + 1) l))) H) : ACall Tryz.prog 95 [eI l, I64 0, I64 n] H K := by
  refine pureC rfl rfl ?_ hK
  refine call95 (by simp) ?_
  simp only [Tryz.results95, Tryz.ntmps95, Tryz.f95, Option.getD_some, pl95]
  simp only [go_sem]
  refine ALoop.intro (pl := pl95) (fun k env H => ∃ i : Nat, env 0 = eI l ∧ env 1 = I64 0 ∧ env 2 = I64 n ∧ env 9 = eI l ∧ env 10 = I64 l.length ∧ env 11 = I64 i ∧ i + k = l.length ∧ rising (n + 1) (l.take i)) l.length (by kernel_rfl) ?_ ?_
  · simp only [go_sem]
    exact ⟨0, rfl, by omega, by simp [rising, inc]⟩
  · rintro k env H ⟨i, e0, e1, e2, e9, e10, e11, hk, ht⟩
    by_cases hz : (i : Int) < l.length
    · obtain ⟨x, hx⟩ := get_some (l := l) (i := i) (by omega)
      have h0 : (0 : Int) ≤ i := by omega
      have hw : IntKind.wrap .i64 ((i : Int) + 1) = i + 1 := i64_in _ (by omega)
      simp only [go_sem, pl95, e0, e1, e2, e9, e10, e11, hz, hx, h0]
      refine c_in ?_
      by_cases q1 : 0 ≤ x ∧ x ≤ n
      · by_cases qi : 0 < (i : Int)
        · obtain ⟨y, hy⟩ := get_some (l := l) (i := i - 1) (by omega)
          have hwp : IntKind.wrap .i64 ((i : Int) - 1) = ((i - 1 : Nat) : Int) := (i64_in _ (by omega)).trans (by omega)
          have hp00 : (0 : Int) ≤ ((i - 1 : Nat) : Int) := by omega
          by_cases q3 : x ≤ y
          · simp only [go_sem, pl95, e0, e1, e2, e9, e10, e11, hz, hx, h0, q1, qi, hwp, hp00, hy, q3]
            exact bF fun e => by have := rising_prev e hx hy (by omega); omega
          · simp only [go_sem, pl95, e0, e1, e2, e9, e10, e11, hz, hx, h0, q1, qi, hwp, hp00, hy, q3, hw]
            exact ⟨k - 1, by omega, i + 1, rfl, by omega, rising_snoc ht hx (by omega) fun _ => ⟨y, hy, by omega⟩⟩
        · simp only [go_sem, pl95, e0, e1, e2, e9, e10, e11, hz, hx, h0, q1, qi, hw]
          exact ⟨k - 1, by omega, i + 1, rfl, by omega, rising_snoc ht hx (by omega) fun h => absurd h (by omega)⟩
      · simp only [go_sem, pl95, e0, e1, e2, e9, e10, e11, hz, hx, h0, q1]
        exact bF fun e => q1 (by have := e.2 x (List.mem_of_getElem? hx); omega)
    · simp only [go_sem, pl95, e0, e1, e2, e9, e10, e11, hz]
      rw [List.take_of_length_le (by omega)] at ht
      exact bT ht
end Go.Proofs.YteegphdelekdaaaGreat

set_option linter.unusedVariables false
set_option linter.unusedSimpArgs false
namespace Go.Proofs.YteegphdelekdaaaGreat
open Go.Abs Go.IntWalk
set_option maxRecDepth 100000
attribute [local go_sem] eI eU eNs eN cN eChs eCh cCh eCos eCo cCo eP take_map eII
/-- Between two steps: what is known of the list. -/
structure BO (g : List (List Int)) (ss O : List Int) : Prop where
  inc : inc O
  sub : ∀ x ∈ ss, x ∈ O
  inn : ∀ x ∈ O, inN g.length x
  bk : ∀ x ∈ O, ∃ k, Bk g ss k x
theorem BO.len {g : List (List Int)} {ss O : List Int} (h : BO g ss O) : O.length ≤ g.length := inc_len h.inc h.inn
theorem BO.put {g : List (List Int)} {ss O : List Int} (h : BO g ss O) {x : Int} (hx : inN g.length x) (hm : ∃ y, y ∈ sucs g x ∧ y ∈ O) : BO g ss (ins x O) := by
  obtain ⟨y, h1, h2⟩ := hm
  obtain ⟨k, hk⟩ := h.bk y h2
  refine ⟨inc_ins h.inc, fun z hz => mem_ins.2 (.inr (h.sub z hz)), fun z hz => ?_, fun z hz => ?_⟩
  · rcases mem_ins.1 hz with rfl | hz
    · exact hx
    · exact h.inn z hz
  · rcases mem_ins.1 hz with rfl | hz
    · exact ⟨k + 1, .inr ⟨hx, y, h1, hk⟩⟩
    · exact h.bk z hz
theorem ins_new {x : Int} : ∀ {O : List Int}, ¬ x ∈ O → (ins x O).length = O.length + 1
  | [], _ => by simp [ins]
  | y :: l, h => by
    simp only [List.mem_cons, not_or] at h
    unfold ins
    split
    · simp only [List.length_cons, ins_new h.2]
    · split
      · rename_i e; exact absurd e.symm h.1
      · simp
theorem c_back8 {p : PProg} {w v : Nat} (h : Sm p w v) {ss : List Int} (hi : inc ss) (hs : ∀ x ∈ ss, inN (2 ^ (w * v)) x) {H : Heap} {K : AV → Heap → Prop} (hK : K (eI (backL (gOf w v p.2.2.2) ss)) H) : ACall Tryz.prog 96 [eP p, eI ss] H K := by
  have hn32 := h.n32
  have hmany := h.many
  generalize hg : gOf w v p.2.2.2 = g at hK
  have hgl : g.length = 2 ^ (w * v) := by rw [← hg]; exact gOf_len
  have hgo : okG g := by rw [← hg]; exact gOf_ok h.ok
  have hsl : ss.length ≤ 32 := Nat.le_trans (inc_len hi hs) hn32
  have hsuc : ∀ n : Nat, n < 2 ^ (w * v) → sucs g (n : Int) = nextL w v p.2.2.2 n := fun n hn => by
    rw [← hg, gOf_suc (by unfold inN; omega), Int.toNat_natCast]
  refine pureC rfl rfl ?_ hK
  refine call96 (by simp) ?_
  simp only [Tryz.results96, Tryz.ntmps96, Tryz.f96, Option.getD_some, pl96]
  simp only [go_sem]
  refine c_own (l := ss) (by omega) ?_
  simp only [go_sem]
  refine ALoop.intro (pl := pl96) (fun k env H => ∃ (O : List Int) (b : Bool) (v2 : Nat), env 2 = .ptr 2 v2 0 ∧ env 5 = eI O ∧ env 6 = .bool b ∧ H 2 = .cells v2 36 1 [I64 p.1, I64 p.2.1, eNs p.2.2.1, eCos p.2.2.2] ∧ BO g ss O ∧ (b = false → ∀ x, inN g.length x → (∃ y, y ∈ sucs g x ∧ y ∈ O) → x ∈ O) ∧ 2 * (g.length - O.length) + (if b then 1 else 0) ≤ k) (2 * g.length + 1) (by kernel_rfl) ?_ ?_
  · simp only [go_sem]
    refine ⟨ss, true, _, rfl, rfl, rfl, rfl, ⟨hi, fun x hx => hx, fun x hx => by rw [hgl]; exact hs x hx, fun x hx => ⟨0, hx⟩⟩, (fun h => nomatch h), ?_⟩
    simp only [if_true]
    omega
  · rintro k env H ⟨O, b, v2, e2, e5, e6, b2, hO, hcl, hk⟩
    cases b with
    | false =>
      simp only [go_sem, pl96, e2, e5, e6, b2]
      rw [back_closed hO.inc hO.sub hO.bk (hcl rfl)]
    | true =>
      simp only [if_true] at hk
      have hOl := hO.len
      simp only [go_sem, pl96, e2, e5, e6, b2]
      refine ALoop.intro (pl := pl96) (fun k1 env H => ∃ (no : Nat) (O1 : List Int) (b : Bool), env 2 = .ptr 2 v2 0 ∧ env 5 = eI O1 ∧ env 6 = .bool b ∧ env 7 = I64 no ∧ H 2 = .cells v2 36 1 [I64 p.1, I64 p.2.1, eNs p.2.2.1, eCos p.2.2.2] ∧ BO g ss O1 ∧ (b = false → O1 = O ∧ ∀ x, inN no x → (∃ y, y ∈ sucs g x ∧ y ∈ O) → x ∈ O) ∧ (b = true → O.length < O1.length) ∧ no + k1 = g.length) g.length (by kernel_rfl) ?_ ?_
      · simp only [go_sem, e2, e5, b2]
        exact ⟨0, O, false, rfl, rfl, rfl, hO, fun _ => ⟨rfl, fun x hx => by unfold inN at hx; omega⟩, (fun h => nomatch h), by omega⟩
      · rintro k1 env H ⟨no, O1, b, e2, e5, e6, e7, b2, hO1, hf, ht, hk1⟩
        have hO1l := hO1.len
        simp only [go_sem, pl96, e2, e5, e6, e7, b2]
        refine c_manyS (p := p) h.small ?_
        rw [hmany]
        have hwi : IntKind.wrap .i64 ((no : Int) + 1) = no + 1 := i64_in _ (by omega)
        by_cases hz : (no : Int) < ((2 ^ (w * v) : Nat) : Int)
        · have hnn : no < 2 ^ (w * v) := by omega
          have hnin : inN g.length (no : Int) := by unfold inN; omega
          have hnl := nextL_len (w := w) (v := v) (no := no) h.len
          simp only [go_sem, pl96, e2, e5, e6, e7, b2, hz]
          refine c_has (l := O1) (x := (no : Int)) (by omega) ?_
          by_cases hm : (no : Int) ∈ O1
          · simp only [go_sem, pl96, e2, e5, e6, e7, b2, hz, hm, hwi]
            refine ⟨k1 - 1, by omega, no + 1, O1, b, rfl, rfl, rfl, hO1, fun hb => ?_, ht, by omega⟩
            obtain ⟨h1, h2⟩ := hf hb
            refine ⟨h1, fun x hx hy => ?_⟩
            by_cases e : x = (no : Int)
            · rw [e, ← h1]; exact hm
            · exact h2 x (by unfold inN at *; omega) hy
          · simp only [go_sem, pl96, e2, e5, e6, e7, b2, hz, hm]
            refine c_nextS (p := p) h (no := no) hnn ?_
            simp only [go_sem, pl96, e2, e5, e6, e7, b2, hz, hm]
            refine c_meetS (a := nextL w v p.2.2.2 no) (b := O1) (by omega) (by omega) ?_
            cases hmt : meetB (nextL w v p.2.2.2 no) O1 with
            | false =>
              simp only [go_sem, pl96, e2, e5, e6, e7, b2, hz, hm, hwi]
              refine ⟨k1 - 1, by omega, no + 1, O1, b, rfl, rfl, rfl, hO1, fun hb => ?_, ht, by omega⟩
              obtain ⟨h1, h2⟩ := hf hb
              refine ⟨h1, fun x hx hy => ?_⟩
              by_cases e : x = (no : Int)
              · rw [e, hsuc no hnn, ← h1] at hy
                rw [meet_iff.2 hy] at hmt
                cases hmt
              · exact h2 x (by unfold inN at *; omega) hy
            | true =>
              have hmm := meet_iff.1 hmt
              rw [← hsuc no hnn] at hmm
              have hput := hO1.put hnin hmm
              have hnew := ins_new hm
              simp only [go_sem, pl96, e2, e5, e6, e7, b2, hz, hm, hwi]
              refine c_put (x := (no : Int)) (l := O1) (.inr rfl) (by omega) ?_
              simp only [go_sem, pl96, e2, e5, e6, e7, b2, hz, hm, hwi]
              refine ⟨k1 - 1, by omega, no + 1, _, true, rfl, rfl, rfl, hput, (fun hb => nomatch hb), fun _ => ?_, by omega⟩
              rw [hnew]
              cases b with
              | false => rw [(hf rfl).1]; omega
              | true => have := ht rfl; omega
        · simp only [go_sem, pl96, e2, e5, e6, e7, b2, hz]
          have hno : no = g.length := by omega
          cases b with
          | false =>
            obtain ⟨h1, h2⟩ := hf rfl
            rw [h1]
            exact ⟨k - 1, by omega, O, false, v2, rfl, rfl, rfl, rfl, hO, fun _ => by rw [← hno]; exact h2, by simp; omega⟩
          | true =>
            have hlt := ht rfl
            exact ⟨k - 1, by omega, O1, true, v2, rfl, rfl, rfl, rfl, hO1, (fun h => nomatch h), by simp; omega⟩
/-! BackFrom. -/
def backOk (p : PProg) (ss : List Int) : Prop := smallP p ∧ rising (manyP p) ss
instance (p : PProg) (ss : List Int) : Decidable (backOk p ss) := by unfold backOk; infer_instance
noncomputable def backOfP (p : PProg) (ss : List Int) : List Int := if backOk p ss then backL (gOf p.1.toNat p.2.1.toNat p.2.2.2) ss else []
theorem backOf_eq {p : PProg} {ss : List Int} {w v : Nat} (h : Sm p w v) (hb : backOk p ss) : backOfP p ss = backL (gOf w v p.2.2.2) ss := by
  unfold backOfP
  rw [if_pos hb, (sm_eq h).1, (sm_eq h).2]
theorem backOf_nil {p : PProg} {ss : List Int} (hn : ¬ backOk p ss) : backOfP p ss = [] := if_neg hn
theorem back_in {p : PProg} {ss : List Int} {w v : Nat} (h : Sm p w v) (hb : backOk p ss) : inc ss ∧ ∀ x ∈ ss, inN (2 ^ (w * v)) x := ⟨hb.2.1, fun x hx => by
  have := hb.2.2 x hx
  rw [h.many] at this
  exact this⟩
theorem k_backI {p : PProg} {ss : List Int} (hw : wfP p) (hsm : smProgram p) (hl : ss.length ≤ 1048576) {H : Heap} {v0 : Nat} (hg : H 1000000 = .gone v0) : ACall Tryz.prog 47 [eP p, eI ss] H (OutL (backOk p ss) (backOfP p ss) (.gone v0)) := by
  generalize hR : OutL (backOk p ss) (backOfP p ss) (.gone v0) = R
  have bad : ¬ backOk p ss → ∀ H' : Heap, H' 1000000 = .gone v0 → R (.tup [.nil, .bool false]) H' := fun h H' h2 => by rw [← hR]; exact .inr ⟨h, rfl, h2⟩
  refine call47 (by simp) ?_
  simp only [Tryz.results47, Tryz.ntmps47, Tryz.f47, Option.getD_some, pl47]
  simp only [go_sem]
  refine c_smallI (p := p) hw hsm ?_
  by_cases hs : smallP p
  · obtain ⟨w, v, h⟩ := sm_of hs
    have hn32 := h.n32
    have h2 := two_pos (w * v)
    simp only [go_sem, hs]
    refine c_manyI (p := p) hs ?_
    simp only [go_sem]
    refine c_incI (l := ss) (n := manyP p) (by omega) ?_
    by_cases hr : rising (manyP p) ss
    · have hb : backOk p ss := ⟨hs, hr⟩
      obtain ⟨hsi, hsin⟩ := back_in h hb
      have hsl := inc_len hsi hsin
      have heq := backOf_eq h hb
      simp only [go_sem, hr]
      refine c_graph (p := p) h ?_
      simp only [go_sem]
      refine c_turned (g := gOf w v p.2.2.2) (gOf_ok h.ok) (by rw [gOf_len]; omega) (by rw [gOf_len]; omega) (fun l hl => by
        obtain ⟨i, hi, rfl⟩ := List.mem_map.1 hl
        have := nextL_len (w := w) (v := v) (no := i) h.len
        omega) fun hT ht => ?_
      have hsin2 : ∀ x ∈ ss, inN hT.length x := fun x hx => by rw [ht.len, gOf_len]; exact hsin x hx
      have hrb := reach_back ht hsi (fun x hx => by rw [gOf_len]; exact hsin x hx)
      have htl := ht.len
      rw [gOf_len] at htl
      simp only [go_sem]
      refine o_reached (g := hT) (ss := ss) 1000000 (by omega) ht.ok (by omega) (by omega) ht.bnd hsin2 (by omega) ⟨v0, by simp only [go_sem]; exact hg⟩ fun ver => ?_
      rw [hrb, ← heq]
      simp only [go_sem]
      rw [← hR]
      exact .inl ⟨hb, ver, rfl, by simp⟩
    · simp only [go_sem, hr]
      exact bad (fun h => hr h.2) _ (by simp [upd]; exact hg)
  · simp only [go_sem, hs]
    exact bad (fun h => hs h.1) _ (by simp [upd]; exact hg)
theorem c_backI {p : PProg} {ss : List Int} (hw : wfP p) (hsm : smProgram p) (hl : ss.length ≤ 1048576) {H : Heap} {K : AV → Heap → Prop} (hK : K (.tup [eI (backOfP p ss), .bool (decide (backOk p ss))]) H) : ACall Tryz.prog 47 [eP p, eI ss] H K := frozL (views_closed _ rfl) (k_backI hw hsm hl rfl) backOf_nil hK
theorem c_backS {p : PProg} {ss : List Int} (hw : wfP p) (hsm : smProgram p) (hl : ss.length ≤ 1048576) {H : Heap} {K : AV → Heap → Prop} (hK : K (.tup [eI (backOfP p ss), .bool (decide (backOk p ss))]) H) : ACall Tryz.prog 46 [eP p, eI ss] H K := by
  refine ACall.pure (R := fun r _ => (backOk p ss ∧ r = .tup [eI (backOfP p ss), .bool true]) ∨ (¬ backOk p ss ∧ r = .tup [.nil, .bool false])) rfl ?_ ?_
  · generalize hR : (fun (r : AV) (_ : Heap) => (backOk p ss ∧ r = AV.tup [eI (backOfP p ss), .bool true]) ∨ (¬ backOk p ss ∧ r = AV.tup [.nil, .bool false])) = R
    have bad : ¬ backOk p ss → ∀ H' : Heap, R (.tup [.nil, .bool false]) H' := fun h H' => by rw [← hR]; exact .inr ⟨h, rfl⟩
    refine call46 (by simp) ?_
    simp only [Tryz.results46, Tryz.ntmps46, Tryz.f46, Option.getD_some, pl46]
    simp only [go_sem]
    refine c_smallS (p := p) hw hsm ?_
    by_cases hs : smallP p
    · obtain ⟨w, v, h⟩ := sm_of hs
      have hml := manyP_le hs
      have hwm : IntKind.wrap .i64 (manyP p - 1) = manyP p - 1 := i64_in _ (by omega)
      simp only [go_sem, hs]
      refine c_manyS (p := p) hs ?_
      simp only [go_sem, hwm]
      refine c_risingS (l := ss) (n := manyP p - 1) (by omega) (by omega) ?_
      have e1 : manyP p - 1 + 1 = manyP p := by omega
      rw [e1]
      by_cases hr : rising (manyP p) ss
      · have hb : backOk p ss := ⟨hs, hr⟩
        obtain ⟨hsi, hsin⟩ := back_in h hb
        have heq := backOf_eq h hb
        simp only [go_sem, hr]
        refine c_back8 (p := p) h hsi hsin ?_
        rw [← heq]
        simp only [go_sem]
        rw [← hR]
        exact .inl ⟨hb, rfl⟩
      · simp only [go_sem, hr]
        exact bad (fun h => hr h.2) _
    · simp only [go_sem, hs]
      exact bad (fun h => hs h.1) _
  · rintro r H' (⟨h, rfl⟩ | ⟨h, rfl⟩)
    · rw [decide_eq_true h] at hK
      exact ⟨_, .cl rfl, rfl, hK⟩
    · rw [decide_eq_false h, backOf_nil h] at hK
      exact ⟨_, .tup2 (.frz _ _ (.nil 1)) (.cl rfl), rfl, hK⟩
end Go.Proofs.YteegphdelekdaaaGreat

set_option linter.unusedVariables false
set_option linter.unusedSimpArgs false
namespace Go.Proofs.YteegphdelekdaaaGreat
open Go.Abs Go.IntWalk
set_option maxRecDepth 100000
attribute [local go_sem] eI eU eNs eN cN eChs eCh cCh eCos eCo cCo eP take_map eII
theorem o_markIntS2 {d v n : Nat} {C : List AV} {k : Int} {H : Heap} {K : AV → Heap → Prop} (hd : 1000000 ≤ d) (hH : H d = .cells v 3 1 C) (hC : C.length = n) (hcl : closedL C = true) (hn : n ≤ 1000000000) (hk0 : 0 ≤ k) (hk : k ≤ 8000000000000000000)
    (hK : K (I64 (k + n)) (upd H d (.cells v 3 1 ((cnt k n).map I64)))) : ACall Tryz.prog 25 [.ref d v 0 n, I64 k] H K := by
  have hin : inI d 1 d = true := inI_iff.2 (by omega)
  refine ACall.iv (d := d) (n := 1) hd ?_ ?_ (R := fun r H' => r = I64 (k + n) ∧ H' d = .cells v 3 1 ((cnt k n).map I64)) ?_ ?_
  · intro i v T sz cs hi hc
    have := inI_iff.1 hi
    rw [show i = d by omega, hH] at hc
    cases hc; exact withinL_cl hcl
  · simp only [withinL, within, hin, Bool.and_self]
  · generalize hHs : sub d 1 H = Hs
    have hs : Hs d = .cells v 3 1 C := by rw [← hHs, sub_in (by omega) (by omega), hH]
    clear hHs
    refine call25 (by simp) ?_
    simp only [Tryz.results25, Tryz.ntmps25, Tryz.f25, Option.getD_some, pl25]
    simp only [go_sem]
    refine ALoop.intro (pl := pl25) (fun q env H => ∃ (i : Nat) (C : List AV), env 0 = .ref d v 0 n ∧ env 1 = I64 (k + (i : Nat)) ∧ env 5 = I64 i ∧ H d = .cells v 3 1 C ∧ i + q = n ∧ C.length = n ∧ C.take i = ((cnt k n).take i).map I64) n (by kernel_rfl) ?_ ?_
    · simp only [go_sem]
      exact ⟨0, C, by simp, rfl, hs, by omega, hC, rfl⟩
    · rintro q env H ⟨i, C, e0, e1, e5, bd, hq, hC, hT⟩
      by_cases hz : (i : Int) < n
      · have h0 : (0 : Int) ≤ i := by omega
        have hw : IntKind.wrap .i64 ((i : Int) + 1) = i + 1 := i64_in _ (by omega)
        have hw1 : IntKind.wrap .i64 (k + (i : Int) + 1) = k + ((i + 1 : Nat) : Int) := by rw [i64_in _ (by omega)]; omega
        simp only [go_sem, pl25, e0, e1, e5, bd, hz, h0, hw, hw1]
        refine ⟨by omega, q - 1, by omega, i + 1, _, rfl, rfl, rfl, by omega, by rw [List.length_set]; exact hC, ?_⟩
        rw [set_take (by omega), hT, cnt_take (by omega), List.map_append]; rfl
      · simp only [go_sem, e0, e1, e5, bd, hz]
        rw [List.take_of_length_le (by omega), List.take_of_length_le (by rw [cnt_len]; omega)] at hT
        have : i = n := by omega
        subst this
        exact ⟨rfl, by rw [hT]⟩
  · rintro r H' ⟨rfl, h⟩
    refine ⟨_, .keep _ rfl, fun i v T sz cs hi hc => ?_, ?_⟩
    · have := inI_iff.1 hi
      rw [show i = d by omega, h] at hc
      cases hc; exact withinL_cl (cll_map fun _ => rfl)
    · rw [joi_one h]; exact hK
/-- Nothing has been overwritten since. -/
theorem back_ex {g : List (List Int)} {ss : List Int} (hn : g.length ≤ 1000) : (backL g ss).length ≤ 1000 ∨ ¬ (∀ x ∈ ss, inN g.length x) := by
  by_cases hs : ∀ x ∈ ss, inN g.length x
  · refine .inl ?_
    unfold backL
    split
    · rename_i h
      have h2 := Classical.choose_spec h
      refine Nat.le_trans (inc_len h2.1 fun x hx => ?_) hn
      obtain ⟨k, hk⟩ := (h2.2 x).1 hx
      exact Bk_in hs hk
    · simp
  · exact .inr hs
theorem backOf_len {p : PProg} {ss : List Int} : (backOfP p ss).length ≤ 1000 := by
  by_cases hb : backOk p ss
  · obtain ⟨w, v, h⟩ := sm_of hb.1
    rw [backOf_eq h hb]
    have := h.n32
    rcases back_ex (g := gOf w v p.2.2.2) (ss := ss) (by rw [gOf_len]; omega) with h1 | h1
    · exact h1
    · exact absurd (fun x hx => by rw [gOf_len]; exact (back_in h hb).2 x hx) h1
  · rw [backOf_nil hb]; simp
/-- The law of BackFrom: true, whatever it is given. -/
theorem c_lawBackFrom {p : PProg} {ss : List Int} (hw : wfP p) (hb : bdProgram p) (hsl : ss.length ≤ 9223372036854775807) : ACall Tryz.prog 10 [eP p, eI ss] H0 fun r _ => r = .bool true := by
  refine call10 (by simp) ?_
  simp only [Tryz.results10, Tryz.ntmps10, Tryz.f10, Option.getD_some, pl10]
  by_cases h0 : 1048576 < (ss.length : Int)
  · simp only [go_sem, h0]
  have hl : ss.length ≤ 1048576 := by omega
  simp only [go_sem, h0]
  refine c_szProgram (x := p) (by omega) (by omega) hb fun r hr => ?_
  by_cases h1 : r < 0
  · simp only [go_sem, h1, decide_true]
  · simp only [go_sem, h1, decide_false]
    obtain ⟨hrl, hsm⟩ := hr (by omega)
    refine c_toProgram (x := p) hsm ?_
    simp only [go_sem]
    refine c_toIntS (t := ss) hl ?_
    simp only [go_sem]
    refine c_backS (p := p) (ss := ss) hw hsm hl ?_
    simp only [go_sem]
    have hrl2 : (backOfP p ss).length ≤ 1000 := backOf_len
    have hnil : ¬ (backOk p ss) → backOfP p ss = [] := fun h => backOf_nil h
    refine o_toProgram (p := p) 2000000 (by omega) hsm (fun i h2 h3 => ⟨0, ?_⟩) fun H1 hag1 ha => ?_
    · simp only [upd]
      repeat rw [if_neg (by omega)]
      rfl
    · have hlo1 : ∀ i, i < 2000000 → H1 i = _ := fun i hi => hag1 i (.inl hi)
      simp only [go_sem, hlo1, oP, Nat.reduceLT]
      refine o_toIntS (t := ss) 1000001 (by omega) hl ⟨0, ?_⟩ fun ver0 => ?_
      · simp only [go_sem, hlo1, Nat.reduceLT]
        try rfl
      simp only [go_sem, hlo1, Nat.reduceLT]
      refine lendP (p := p) (d := 2000000) (e := 1000000) (v0 := 0) (H1 := H1) (xs' := [eI ss]) (ok := backOk p ss) (res := backOfP p ss) rfl ha (fun i h => by simp only [upd]; repeat rw [if_neg (by omega)]) (by omega) ?_ (.cons _ _ _ _ (.frz _ _ (frI (T := 3) (by simp) (by simp only [go_sem]))) .nil) (k_backI (p := p) (ss := ss) hw hsm hl rfl) (fun hs ver => ?_) fun hs => ?_
      · simp only [go_sem, hlo1, Nat.reduceLT]
        try rfl
      · have hn0 : ¬ (1 + ((backOfP p ss).length : Int)) < 0 := by omega
        simp only [go_sem, hlo1, Nat.reduceLT, hs]
        refine l_eqIntS (a := backOfP p ss) (b := backOfP p ss) (frI (T := 3) rfl (by simp only [go_sem])) (.cl _ rfl) (by omega) (by omega) ?_
        simp only [go_sem, hlo1, Nat.reduceLT, hs, decide_true]
        refine c_toProgram (x := p) hsm ?_
        simp only [go_sem, hlo1, Nat.reduceLT]
        refine m_eqProgram (d := 2000000) (p := p) (q := p) (H1 := H1) rfl ha (fun i h => by simp only [upd]; repeat rw [if_neg (by omega)]) hsm hsm ?_
        simp only [go_sem, hlo1, Nat.reduceLT, decide_true]
        refine c_toIntS (t := ss) hl ?_
        simp only [go_sem, hlo1, Nat.reduceLT]
        refine l_eqIntS (a := ss) (b := ss) (frI (T := 3) rfl (by simp only [go_sem])) (.cl _ rfl) (by omega) (by omega) ?_
        simp only [go_sem, hlo1, Nat.reduceLT, decide_true]
        refine m_markProgram (d := 2000000) (p := p) (H1 := H1) rfl ha (fun i h => by simp only [upd]; repeat rw [if_neg (by omega)]) (by omega) hsm (by omega) (by omega) fun k1 H4 hag4 hk1 hk2 => ?_
        have hlo4 : ∀ i, i < 2000000 → H4 i = _ := fun i hi => hag4 i (.inl hi)
        have hk1' : ¬ k1 + (ss.length : Int) < 0 := by omega
        simp only [go_sem, hlo4, hlo1, Nat.reduceLT]
        refine o_markIntS2 (d := 1000001) (n := ss.length) (C := ss.map I64) (by omega) (by simp only [go_sem, hlo4, hlo1, Nat.reduceLT]) (by simp) (cll_map fun _ => rfl) (by omega) (by omega) (by omega) ?_
        simp only [go_sem, hlo4, hlo1, Nat.reduceLT, hk1']
        refine l_eqIntS (a := backOfP p ss) (b := backOfP p ss) (frI (T := 3) rfl (by simp only [go_sem, hlo4, hlo1, Nat.reduceLT])) (.cl _ rfl) (by omega) (by omega) ?_
        simp only [go_sem, hlo4, hlo1, Nat.reduceLT, hs, decide_true]
        refine o_markIntS (d := 1000000) (C := (backOfP p ss).map I64) (by omega) (by simp only [go_sem, hlo4, hlo1, Nat.reduceLT]) (by simp) (cll_map fun _ => rfl) (by omega) (by omega) (by omega) ?_
        simp only [go_sem, hlo4, hlo1, Nat.reduceLT]
        refine l_heldIntS (n := (backOfP p ss).length) (k := 1) (frC (T := 3) rfl (by simp only [go_sem])) (by omega) (by omega) (by omega) ?_
        simp only [go_sem, hlo4, hlo1, Nat.reduceLT, hn0]
        refine c_toProgram (x := p) hsm ?_
        simp only [go_sem, hlo4, hlo1, Nat.reduceLT]
        refine c_toIntS (t := ss) hl ?_
        simp only [go_sem, hlo4, hlo1, Nat.reduceLT]
        refine c_backI (p := p) (ss := ss) hw hsm hl ?_
        simp only [go_sem, hlo4, hlo1, Nat.reduceLT, hs, decide_true]
        refine c_eqIntS (a := backOfP p ss) (b := backOfP p ss) (by omega) (by omega) ?_
        simp only [go_sem, hlo4, hlo1, Nat.reduceLT, hs, decide_true]
        refine l_heldIntS (n := (backOfP p ss).length) (k := 1) (frC (T := 3) rfl (by simp only [go_sem])) (by omega) (by omega) (by omega) ?_
        simp only [go_sem, hlo4, hlo1, Nat.reduceLT, hn0]
      · have z0 : 1 + ((0 : Nat) : Int) = 1 := rfl
        have hnil := hnil hs
        simp only [go_sem, hlo1, Nat.reduceLT, hs, hnil]
        refine l_eqIntS (a := []) (b := []) (.nil 1) (.cl _ rfl) (by simp) (by simp) ?_
        simp only [go_sem, hlo1, Nat.reduceLT, hs, hnil, decide_true]
        refine c_toProgram (x := p) hsm ?_
        simp only [go_sem, hlo1, Nat.reduceLT]
        refine m_eqProgram (d := 2000000) (p := p) (q := p) (H1 := H1) rfl ha (fun i h => by simp only [upd]; repeat rw [if_neg (by omega)]) hsm hsm ?_
        simp only [go_sem, hlo1, Nat.reduceLT, decide_true]
        refine c_toIntS (t := ss) hl ?_
        simp only [go_sem, hlo1, Nat.reduceLT]
        refine l_eqIntS (a := ss) (b := ss) (frI (T := 3) rfl (by simp only [go_sem])) (.cl _ rfl) (by omega) (by omega) ?_
        simp only [go_sem, hlo1, Nat.reduceLT, decide_true]
        refine m_markProgram (d := 2000000) (p := p) (H1 := H1) rfl ha (fun i h => by simp only [upd]; repeat rw [if_neg (by omega)]) (by omega) hsm (by omega) (by omega) fun k1 H4 hag4 hk1 hk2 => ?_
        have hlo4 : ∀ i, i < 2000000 → H4 i = _ := fun i hi => hag4 i (.inl hi)
        have hk1' : ¬ k1 + (ss.length : Int) < 0 := by omega
        simp only [go_sem, hlo4, hlo1, Nat.reduceLT]
        refine o_markIntS2 (d := 1000001) (n := ss.length) (C := ss.map I64) (by omega) (by simp only [go_sem, hlo4, hlo1, Nat.reduceLT]) (by simp) (cll_map fun _ => rfl) (by omega) (by omega) (by omega) ?_
        simp only [go_sem, hlo4, hlo1, Nat.reduceLT, hk1']
        refine l_eqIntS (a := []) (b := backOfP p ss) (.nil 1) (.cl _ rfl) (by simp) (by omega) ?_
        simp only [go_sem, hlo4, hlo1, Nat.reduceLT, hs, hnil, decide_true]
        refine n_markIntS ?_
        simp only [go_sem, hlo4, hlo1, Nat.reduceLT]
        refine l_heldIntS (n := 0) (k := 1) (.nil 1) (by omega) (by omega) (by omega) ?_
        simp only [go_sem, hlo4, hlo1, Nat.reduceLT, z0]
        refine c_toProgram (x := p) hsm ?_
        simp only [go_sem, hlo4, hlo1, Nat.reduceLT]
        refine c_toIntS (t := ss) hl ?_
        simp only [go_sem, hlo4, hlo1, Nat.reduceLT]
        refine c_backI (p := p) (ss := ss) hw hsm hl ?_
        simp only [go_sem, hlo4, hlo1, Nat.reduceLT, hs, hnil, decide_true]
        refine c_eqIntS (a := []) (b := []) (by simp) (by simp) ?_
        simp only [go_sem, hlo4, hlo1, Nat.reduceLT, hs, hnil, decide_true]
        refine l_heldIntS (n := 0) (k := 1) (.nil 1) (by omega) (by omega) (by omega) ?_
        simp only [go_sem, hlo4, hlo1, Nat.reduceLT, z0]
end Go.Proofs.YteegphdelekdaaaGreat
