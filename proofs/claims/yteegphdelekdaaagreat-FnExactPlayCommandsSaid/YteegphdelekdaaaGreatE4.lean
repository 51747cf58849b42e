/- Texts of ours, joined: YteegphdelekdaaaGreatAbsX YteegphdelekdaaaGreatH19 YteegphdelekdaaaGreatH20 YteegphdelekdaaaGreatH21 YteegphdelekdaaaGreatH22 YteegphdelekdaaaGreatH23 YteegphdelekdaaaGreatH24. -/
import Derived.Test.YteegphdelekdaaaGreatAbs3
import Derived.Test.YteegphdelekdaaaGreatE3
/- The abstract machine, part X: blocks under consecutive names, handed over and handed back. -/
set_option linter.unusedVariables false
set_option linter.unusedSimpArgs false
namespace Go.Abs
/-- The names d, d+1, .., d+n-1. -/
def inI (d n : Nat) : Nat → Bool := fun i => Nat.ble d i && Nat.blt i (d + n)
theorem inI_iff {d n i : Nat} : inI d n i = true ↔ d ≤ i ∧ i < d + n := by simp [inI, Nat.blt_eq]
theorem inI_eq (d n : Nat) : (fun x => (List.range' d n).contains x) = inI d n := by
  funext i
  rw [Bool.eq_iff_iff, inI_iff]
  simp [List.mem_range'_1]
/-- The part of a heap under these names; the heap with that part put back. -/
def sub (d n : Nat) (H : Heap) : Heap := fun i => if inI d n i then H i else .gone 0
def joi (d n : Nat) (H' H : Heap) : Heap := fun i => if inI d n i then H' i else H i
theorem ren_self : ∀ (a : AV), ren id a = a := by
  have key : ∀ (n : Nat) (a : AV), SizeOf.sizeOf a < n → ren id a = a := by
    intro n
    induction n with
    | zero => intro a h; omega
    | succ n ih =>
      intro a hn
      have hl : ∀ (l : List AV), (∀ x ∈ l, SizeOf.sizeOf x < n) → renL id l = l := by
        intro l
        induction l with
        | nil => intro _; rfl
        | cons x l ihl =>
          intro hx
          simp only [renL]
          rw [ih x (hx x (by simp)), ihl (fun y hy => hx y (by simp [hy]))]
      have hs : ∀ (l : List AV) (x : AV), x ∈ l → SizeOf.sizeOf l < SizeOf.sizeOf a → SizeOf.sizeOf x < n := fun l x hx hla => by
        have := List.sizeOf_lt_of_mem hx; omega
      cases a <;> simp only [ren] <;> first
        | rfl
        | (congr 1; refine hl _ (fun x hx => hs _ x hx (by simp <;> omega)); done)
  exact fun a => key (SizeOf.sizeOf a + 1) a (by omega)
theorem renL_self (l : List AV) : renL id l = l := by
  induction l with
  | nil => rfl
  | cons a l ih => simp only [renL]; rw [ren_self, ih]
theorem blk_self (b : Blk) : b.ren id = b := by cases b <;> simp only [Blk.ren]; rw [renL_self]
theorem joinH_iv {d n : Nat} {H' H : Heap} : joinH id (List.range' d n) (fun _ => false) H' H = joi d n H' H := by
  funext i
  unfold joinH joi lookL
  by_cases h : inI d n i = true
  · have hm : i ∈ List.range' d n := by have := inI_iff.1 h; simp [List.mem_range'_1]; omega
    cases hf : (List.range' d n).find? (fun k => id k == i) with
    | none => have := List.find?_eq_none.1 hf i hm; simp at this
    | some k =>
      have h1 := List.find?_some hf
      simp only [id, beq_iff_eq] at h1
      subst h1
      simp only [h, if_true, blk_self]
  · cases hf : (List.range' d n).find? (fun k => id k == i) with
    | none => simp [h]
    | some k =>
      have h1 := List.find?_some hf
      have h2 := List.mem_of_find?_eq_some hf
      simp only [id, beq_iff_eq] at h1
      subst h1
      exact absurd (inI_iff.2 (by simp [List.mem_range'_1] at h2; omega)) h
variable {P : Program} {g : FuncId}
/-- Blocks under consecutive names go into a call and come back. -/
theorem ACall.iv {args : List AV} {H : Heap} {R K : AV → Heap → Prop} {d n : Nat} (hd : 1000000 ≤ d) (hc : ∀ i v T sz cs, inI d n i = true → H i = .cells v T sz cs → withinL (inI d n) anyAV cs = true)
    (ha : withinL (inI d n) anyAV args = true) (h : ACall P g args (sub d n H) R)
    (hK : ∀ r H', R r H' → ∃ r', Res (inI d n) anyAV H' r r' ∧ (∀ i v T sz cs, inI d n i = true → H' i = .cells v T sz cs → withinL (inI d n) anyAV cs = true) ∧ K r' (joi d n H' H)) : ACall P g args H K := by
  have hm : ∀ i, i ∈ List.range' d n ↔ inI d n i = true := fun i => by rw [inI_iff]; simp [List.mem_range'_1]
  have hcon : ∀ i, (List.range' d n).contains i = inI d n i := fun i => congrFun (inI_eq d n) i
  refine ACall.lift h (List.range' d n) id (fun _ => false) (fun _ => false) anyAV ?_ (fun _ _ _ _ h => h) ?_ ?_ ?_ (by simp) (by simp) (by simp) (.inl (by simp)) ?_ ?_
  · intro i hi; have := inI_iff.1 ((hm i).1 hi); omega
  · intro i hi; simp only [id, sub, (hm i).1 hi, if_true, blk_self]
  · intro i hi v T sz cs h1
    simp only [sub, (hm i).1 hi, if_true] at h1
    rw [inI_eq]; exact hc i v T sz cs ((hm i).1 hi) h1
  · intro i v T sz cs h1
    simp only [sub] at h1
    split at h1
    · rename_i h2; exact (hm i).2 h2
    · cases h1
  · rw [inI_eq]
    clear h hK
    induction args with
    | nil => exact .nil
    | cons a l ih =>
      simp only [withinL, Bool.and_eq_true] at ha
      refine .cons _ _ _ _ ?_ (ih ha.2)
      have := View.ren (H := H) (L := inI d n) (ρ := id) (β := fun _ => false) a ha.1
      rw [ren_self] at this
      exact this
  · intro r' H' hR
    obtain ⟨r, h1, h2, h3⟩ := hK r' H' hR
    refine ⟨r, by rw [inI_eq]; exact h1, fun i hi v T sz cs h4 => by rw [inI_eq]; exact h2 i v T sz cs ((hm i).1 hi) h4, ?_⟩
    rw [ren_self, joinH_iv]
    exact h3
/-- The block that the callee made becomes ours under the name d. -/
theorem ACall.named {args : List AV} {H : Heap} {K : AV → Heap → Prop} (d : Nat) (hd : 1000000 ≤ d) {s T sz len : Nat} (hs : s < 1000000) {Q : List AV → Heap → Prop}
    (h : ACall P g args H fun r H' => ∃ v cs, r = .ref s v 0 len ∧ H' s = .cells v T sz cs ∧ Q cs H')
    (hK : ∀ v ver cs H', Q cs H' → K (.ref d ver 0 len) (upd (upd H' s (.gone v)) d (.cells ver T sz cs))) : ACall P g args H K := by
  refine ACall.own d hd h ?_
  rintro r H' ⟨v, cs, rfl, h1, h2⟩
  exact .inl ⟨s, v, T, sz, cs, _, hs, h1, .ref .., hK _ _ _ _ h2⟩
end Go.Abs

set_option linter.unusedVariables false
set_option linter.unusedSimpArgs false
namespace Go.Proofs.YteegphdelekdaaaGreat
open Go.Abs Go.IntWalk
set_option maxRecDepth 100000
attribute [local go_sem] eI eU eNs eN cN eChs eCh cCh eCos eCo cCo eP take_map
/-! Copies that are ours, deep. -/
theorem upd_lo {α : Type} {f : Nat → α} {d i : Nat} {x : α} (hi : i < 1000000) (hd : 1000000 ≤ d) : upd f d x i = f i := upd_ne _ _ (by omega)
theorem upd_hi {α : Type} {f : Nat → α} {d i : Nat} {x : α} (hi : i < 1000000) (hd : 1000000 ≤ d) : upd f i x d = f d := upd_ne _ _ (by omega)
theorem eq_lo {d i : Nat} (hi : i < 1000000) (hd : 1000000 ≤ d) : (i = d) = False := eq_false (by omega)
theorem eq_hi {d i : Nat} (hi : i < 1000000) (hd : 1000000 ≤ d) : (d = i) = False := eq_false (by omega)
theorem joi_in {d n i : Nat} {H' H : Heap} (h1 : d ≤ i) (h2 : i < d + n) : joi d n H' H i = H' i := by simp only [joi, inI_iff.2 ⟨h1, h2⟩, if_true]
theorem joi_out {d n i : Nat} {H' H : Heap} (h : i < d ∨ d + n ≤ i) : joi d n H' H i = H i := by
  unfold joi
  rw [if_neg fun h2 => by have := inI_iff.1 h2; omega]
theorem sub_in {d n i : Nat} {H : Heap} (h1 : d ≤ i) (h2 : i < d + n) : sub d n H i = H i := by simp only [sub, inI_iff.2 ⟨h1, h2⟩, if_true]
theorem joi_one {d : Nat} {H' H : Heap} {b : Blk} (h : H' d = b) : joi d 1 H' H = upd H d b := by
  funext i
  by_cases e : i = d
  · subst e; rw [joi_in (by omega) (by omega), upd_same, h]
  · rw [joi_out (by omega), upd_ne _ _ e]
/-- Nothing is there under the names. -/
def Gone (d n : Nat) (H : Heap) : Prop := ∀ i, d ≤ i → i < d + n → ∃ v, H i = .gone v
theorem Gone.sub {d n : Nat} {H : Heap} (h : Gone d n H) : Gone d n (sub d n H) := fun i h1 h2 => by rw [sub_in h1 h2]; exact h i h1 h2
theorem Gone.cells {d n : Nat} {H : Heap} {L : Nat → Bool} (h : Gone d n H) : ∀ i v T sz cs, inI d n i = true → H i = .cells v T sz cs → withinL L anyAV cs = true := fun i v T sz cs hi hc => by
  have := inI_iff.1 hi
  obtain ⟨w, hw⟩ := h i this.1 this.2
  rw [hw] at hc; cases hc
theorem k_toNodeS {t : List PNode} {H : Heap} (ht : smNodeS t) : ACall Tryz.prog 37 [eNs t] H fun r H' => ∃ v cs, r = .ref 7 v 0 t.length ∧ H' 7 = .cells v 94 2 cs ∧ cs = t.flatMap cN := by
  have hl := ht.1
  refine call37 (by simp) ?_
  simp only [Tryz.results37, Tryz.ntmps37, Tryz.f37, Option.getD_some, pl37]
  simp only [go_sem]
  refine ⟨by omega, by omega, by omega, by omega, ?_⟩
  refine ALoop.intro (pl := pl37) (fun k env H => ∃ (i v : Nat) (C : List AV), env 0 = eNs t ∧ env 3 = .ref 7 v 0 t.length ∧ env 4 = I64 i ∧ H 7 = .cells v 94 2 C ∧ i + k = t.length ∧ C.length = t.length * 2 ∧ C.take (i * 2) = (t.take i).flatMap cN) t.length (by kernel_rfl) ?_ ?_
  · simp only [go_sem]
    exact ⟨0, _, _, rfl, rfl, rfl, by omega, by rw [reps_len]; rfl, rfl⟩
  · rintro k env H ⟨i, v, C, e0, e3, e4, b7, hk, hC, hT⟩
    by_cases hz : (i : Int) < t.length
    · obtain ⟨x, hx⟩ := get_some (l := t) (i := i) (by omega)
      have h0 : (0 : Int) ≤ i := by omega
      have hw : IntKind.wrap .i64 ((i : Int) + 1) = i + 1 := i64_in _ (by omega)
      simp only [go_sem, pl37, e0, e3, e4, b7, hz, hx, h0]
      refine c_toNode (x := x) (ht.2 x (List.mem_of_getElem? hx)) ?_
      simp only [go_sem, pl37, e0, e3, e4, b7, hz, hx, h0, hw]
      refine ⟨by omega, k - 1, by omega, i + 1, _, _, rfl, rfl, rfl, by omega, ?_, ?_⟩
      · rw [← hC]; exact put_len (xs := cN x) (by rw [hC]; show i * 2 + 2 ≤ _; omega)
      · rw [Nat.succ_mul]
        refine (put_take (xs := cN x) (by rw [hC]; show i * 2 + 2 ≤ _; omega)).trans ?_
        rw [hT, take_one hx, List.flatMap_append]
        simp
    · simp only [go_sem, e0, e3, e4, b7, hz]
      rw [List.take_of_length_le (by omega), List.take_of_length_le (by omega)] at hT
      exact ⟨v, _, rfl, rfl, by rw [hT]⟩
theorem cl_nodes (t : List PNode) : closedL (t.flatMap cN) = true := cl_flat (fun _ => rfl) t
theorem o_toNodeS {t : List PNode} {H : Heap} {K : AV → Heap → Prop} (d : Nat) (hd : 1000000 ≤ d) (ht : smNodeS t) (hg : ∃ v0, H d = .gone v0) (hK : ∀ ver, K (.ref d ver 0 t.length) (upd H d (.cells ver 94 2 (t.flatMap cN)))) : ACall Tryz.prog 37 [eNs t] H K := by
  obtain ⟨v0, hg⟩ := hg
  refine ACall.own1 d hg rfl (cl_nodes t) ?_ hK
  refine ACall.named 1000000 (by omega) (s := 7) (by omega) (Q := fun cs H' => cs = t.flatMap cN) (k_toNodeS ht) ?_
  rintro v ver cs H' rfl
  exact ⟨ver, rfl, upd_same ..⟩
theorem o_toChange {x : PChange} {H : Heap} {K : AV → Heap → Prop} (d : Nat) (hd : 1000000 ≤ d) (hx : smChange x) (hg : ∃ v0, H d = .gone v0) (hK : ∀ ver, K (.agg [I64 x.1, .ref d ver 0 x.2.length]) (upd H d (.cells ver 94 2 (x.2.flatMap cN)))) : ACall Tryz.prog 157 [eCh x] H K := by
  have hG : Gone d 1 H := fun i h1 h2 => by rw [show i = d by omega]; exact hg
  refine ACall.iv (d := d) (n := 1) hd hG.cells rfl (R := fun r H' => ∃ ver, r = .agg [I64 x.1, .ref d ver 0 x.2.length] ∧ H' d = .cells ver 94 2 (x.2.flatMap cN)) ?_ ?_
  · generalize hH : sub d 1 H = Hs
    have hg : ∃ v0, Hs d = .gone v0 := by rw [← hH]; exact hG.sub d (by omega) (by omega)
    refine call157 (by simp) ?_
    simp only [Tryz.results157, Tryz.ntmps157, Tryz.f157, Option.getD_some, pl157]
    simp only [go_sem]
    refine o_toNodeS (t := x.2) d hd hx ?_ fun ver => ?_
    · simp only [go_sem, eq_lo, eq_hi, hd, Nat.reduceLT, if_false, hg]
    · simp only [go_sem, eq_lo, eq_hi, hd, Nat.reduceLT, if_false]
      exact ⟨ver, rfl, rfl⟩
  · rintro r H' ⟨ver, rfl, h⟩
    refine ⟨_, .keep _ ?_, ?_, ?_⟩
    · simp [within, withinL, inI_iff]
    · intro i v T sz cs hi hc
      have := inI_iff.1 hi
      rw [show i = d by omega, h] at hc
      cases hc
      exact withinL_cl (cl_nodes _)
    · rw [joi_one h]; exact hK ver
/-- The cells of copied changes, the copies of their terms under the names from d. -/
def rCh (d : Nat) (H : Heap) : List PChange → List AV
  | [] => []
  | x :: t => I64 x.1 :: .ref d (H d).ver 0 x.2.length :: rCh (d + 1) H t
def atNs (d : Nat) (H : Heap) (t : List PNode) : Prop := ∃ v, H d = .cells v 94 2 (t.flatMap cN)
def atChs (d : Nat) (H : Heap) : List PChange → Prop
  | [] => True
  | x :: t => atNs d H x.2 ∧ atChs (d + 1) H t
theorem rCh_len {H : Heap} : ∀ {t : List PChange} {d : Nat}, (rCh d H t).length = t.length * 2
  | [], d => rfl
  | x :: t, d => by simp only [rCh, List.length_cons, rCh_len (t := t)]; omega
theorem rCh_app {H : Heap} {x : PChange} : ∀ {t : List PChange} {d : Nat}, rCh d H (t ++ [x]) = rCh d H t ++ [I64 x.1, .ref (d + t.length) (H (d + t.length)).ver 0 x.2.length]
  | [], d => rfl
  | y :: t, d => by simp only [rCh, List.cons_append, rCh_app (t := t), List.length_cons, show d + 1 + t.length = d + (t.length + 1) by omega]
theorem atNs_congr {d : Nat} {H H' : Heap} {t : List PNode} (h : H' d = H d) (ha : atNs d H t) : atNs d H' t := by unfold atNs; rw [h]; exact ha
theorem rCh_congr {H H' : Heap} : ∀ {t : List PChange} {d : Nat}, (∀ i, d ≤ i → i < d + t.length → H' i = H i) → rCh d H' t = rCh d H t
  | [], d, _ => rfl
  | x :: t, d, h => by
    simp only [rCh]
    rw [h d (by omega) (by simp only [List.length_cons]; omega), rCh_congr (t := t) fun i h1 h2 => h i (by omega) (by simp only [List.length_cons]; omega)]
theorem atChs_congr {H H' : Heap} : ∀ {t : List PChange} {d : Nat}, (∀ i, d ≤ i → i < d + t.length → H' i = H i) → atChs d H t → atChs d H' t
  | [], d, _, _ => trivial
  | x :: t, d, h, ha => ⟨atNs_congr (h d (by omega) (by simp only [List.length_cons]; omega)) ha.1, atChs_congr (t := t) (fun i h1 h2 => h i (by omega) (by simp only [List.length_cons]; omega)) ha.2⟩
theorem atChs_app {H : Heap} {x : PChange} : ∀ {t : List PChange} {d : Nat}, atChs d H t → atNs (d + t.length) H x.2 → atChs d H (t ++ [x])
  | [], d, _, h => ⟨h, trivial⟩
  | y :: t, d, ha, h => ⟨ha.1, atChs_app (t := t) ha.2 (by rw [show d + 1 + t.length = d + (t.length + 1) by omega]; exact h)⟩
theorem rCh_within {H : Heap} {D n : Nat} : ∀ {t : List PChange} {d : Nat}, D ≤ d → d + t.length ≤ D + n → withinL (inI D n) anyAV (rCh d H t) = true
  | [], d, _, _ => rfl
  | x :: t, d, h1, h2 => by
    simp only [List.length_cons] at h2
    have e1 : inI D n d = true := inI_iff.2 ⟨h1, by omega⟩
    have e2 : withinL (inI D n) anyAV (rCh (d + 1) H t) = true := rCh_within (t := t) (d := d + 1) (by omega) (by omega)
    simp only [rCh, withinL, within, e1, e2, Bool.and_self]
theorem atNs_within {L : Nat → Bool} {d : Nat} {H : Heap} {t : List PNode} {v T sz : Nat} {cs : List AV} (ha : atNs d H t) (hc : H d = .cells v T sz cs) : withinL L anyAV cs = true := by
  obtain ⟨v0, h⟩ := ha
  rw [h] at hc; cases hc
  exact withinL_cl (cl_nodes _)
theorem atChs_within {L : Nat → Bool} {H : Heap} : ∀ {t : List PChange} {d i v T sz : Nat} {cs : List AV}, atChs d H t → d ≤ i → i < d + t.length → H i = .cells v T sz cs → withinL L anyAV cs = true
  | [], d, i, _, _, _, _, _, h1, h2, _ => by simp at h2; omega
  | x :: t, d, i, _, _, _, _, ha, h1, h2, hc => by
    by_cases e : i = d
    · subst e; exact atNs_within ha.1 hc
    · exact atChs_within (t := t) (d := d + 1) ha.2 (by omega) (by simp only [List.length_cons] at h2; omega) hc
theorem Gone.mono {d n d' n' : Nat} {H : Heap} (h : Gone d n H) (h1 : d ≤ d') (h2 : d' + n' ≤ d + n) : Gone d' n' H := fun i h3 h4 => h i (by omega) (by omega)
theorem Gone.congr {d n : Nat} {H H' : Heap} (h : Gone d n H) (he : ∀ i, d ≤ i → i < d + n → H' i = H i) : Gone d n H' := fun i h3 h4 => by rw [he i h3 h4]; exact h i h3 h4
theorem k_toChangeS {t : List PChange} {H : Heap} (d : Nat) (hd : 1000000 ≤ d) (ht : smChangeS t) (hg : Gone d t.length H) : ACall Tryz.prog 135 [eChs t] H fun r H' => ∃ v cs, r = .ref 7 v 0 t.length ∧ H' 7 = .cells v 143 2 cs ∧ (cs = rCh d H' t ∧ atChs d H' t) := by
  have hl := ht.1
  refine call135 (by simp) ?_
  simp only [Tryz.results135, Tryz.ntmps135, Tryz.f135, Option.getD_some, pl135]
  simp only [go_sem]
  refine ⟨by omega, by omega, by omega, by omega, ?_⟩
  refine ALoop.intro (pl := pl135) (fun k env H => ∃ (i v : Nat) (C : List AV), env 0 = eChs t ∧ env 3 = .ref 7 v 0 t.length ∧ env 4 = I64 i ∧ H 7 = .cells v 143 2 C ∧ i + k = t.length ∧ C.length = t.length * 2 ∧ C.take (i * 2) = rCh d H (t.take i) ∧ atChs d H (t.take i) ∧ Gone (d + i) k H) t.length (by kernel_rfl) ?_ ?_
  · simp only [go_sem]
    exact ⟨0, _, _, rfl, rfl, rfl, by omega, by rw [reps_len]; rfl, rfl, trivial, hg.congr fun i h1 h2 => upd_ne _ _ (by omega)⟩
  · rintro k env H ⟨i, v, C, e0, e3, e4, b7, hk, hC, hT, hA, hG⟩
    by_cases hz : (i : Int) < t.length
    · obtain ⟨x, hx⟩ := get_some (l := t) (i := i) (by omega)
      have h0 : (0 : Int) ≤ i := by omega
      have hw : IntKind.wrap .i64 ((i : Int) + 1) = i + 1 := i64_in _ (by omega)
      have hdi : 1000000 ≤ d + i := by omega
      have htl : (t.take i).length = i := by rw [List.length_take]; omega
      simp only [go_sem, pl135, e0, e3, e4, b7, hz, hx, h0]
      refine o_toChange (x := x) (d + i) hdi (ht.2 x (List.mem_of_getElem? hx)) (hG (d + i) (by omega) (by omega)) fun ver => ?_
      simp only [go_sem, pl135, e0, e3, e4, b7, hz, hx, h0, hw, eq_lo, eq_hi, hdi, Nat.reduceLT, if_false]
      refine ⟨by omega, k - 1, by omega, i + 1, _, _, rfl, rfl, rfl, by omega, ?_, ?_, ?_, ?_⟩
      · rw [← hC]; exact put_len (xs := [I64 x.1, .ref (d + i) ver 0 x.2.length]) (by rw [hC]; show i * 2 + 2 ≤ _; omega)
      · rw [Nat.succ_mul]
        refine (put_take (xs := [I64 x.1, .ref (d + i) ver 0 x.2.length]) (by rw [hC]; show i * 2 + 2 ≤ _; omega)).trans ?_
        rw [hT, take_one hx, rCh_app, htl]
        congr 1
        · exact (rCh_congr fun j h1 h2 => by rw [htl] at h2; rw [upd_ne _ _ (by omega), upd_ne _ _ (by omega)]).symm
        · rw [upd_ne _ _ (by omega), upd_same]; rfl
      · rw [take_one hx]
        refine atChs_app (atChs_congr (fun j h1 h2 => by rw [htl] at h2; rw [upd_ne _ _ (by omega), upd_ne _ _ (by omega)]) hA) ?_
        rw [htl]
        exact ⟨ver, by rw [upd_ne _ _ (by omega), upd_same]⟩
      · exact (hG.mono (by omega) (by omega)).congr fun j h1 h2 => by rw [upd_ne _ _ (by omega), upd_ne _ _ (by omega)]
    · simp only [go_sem, e0, e3, e4, b7, hz]
      rw [List.take_of_length_le (by omega), List.take_of_length_le (by omega)] at hT
      rw [List.take_of_length_le (by omega)] at hA
      exact ⟨v, _, rfl, rfl, hT, hA⟩
theorem o_toChangeS {t : List PChange} {H : Heap} {K : AV → Heap → Prop} (d : Nat) (hd : 1000000 ≤ d) (ht : smChangeS t) (hg : Gone d (1 + t.length) H)
    (hK : ∀ ver H', (∀ i, i < d ∨ d + (1 + t.length) ≤ i → H' i = H i) → H' d = .cells ver 143 2 (rCh (d + 1) H' t) → atChs (d + 1) H' t → K (.ref d ver 0 t.length) H') : ACall Tryz.prog 135 [eChs t] H K := by
  refine ACall.iv (d := d) (n := 1 + t.length) hd hg.cells rfl (R := fun r H' => ∃ ver, r = .ref d ver 0 t.length ∧ H' d = .cells ver 143 2 (rCh (d + 1) H' t) ∧ atChs (d + 1) H' t) ?_ ?_
  · refine ACall.named d hd (s := 7) (by omega) (k_toChangeS (d + 1) (by omega) ht (hg.sub.mono (by omega) (by omega))) ?_
    rintro v ver cs H' ⟨rfl, hA⟩
    have e : ∀ i, d + 1 ≤ i → upd (upd H' 7 (.gone v)) d (.cells ver 143 2 (rCh (d + 1) H' t)) i = H' i := fun i h => by rw [upd_ne _ _ (by omega), upd_ne _ _ (by omega)]
    exact ⟨ver, rfl, by rw [upd_same, rCh_congr fun i h _ => e i h], atChs_congr (fun i h _ => e i h) hA⟩
  · rintro r H' ⟨ver, rfl, h1, h2⟩
    refine ⟨_, .keep _ (inI_iff.2 (by omega)), ?_, ?_⟩
    · intro i v T sz cs hi hc
      have hi := inI_iff.1 hi
      by_cases e : i = d
      · subst e
        rw [h1] at hc; cases hc
        exact rCh_within (by omega) (by omega)
      · exact atChs_within h2 (by omega) (by omega) hc
    · have e : ∀ i, d ≤ i → i < d + (1 + t.length) → joi d (1 + t.length) H' H i = H' i := fun i h3 h4 => joi_in h3 h4
      have er : rCh (d + 1) (joi d (1 + t.length) H' H) t = rCh (d + 1) H' t := rCh_congr fun i h3 h4 => e i (by omega) (by omega)
      exact hK ver _ (fun i hi => joi_out hi) (by rw [e d (by omega) (by omega), h1, er]) (atChs_congr (fun i h3 h4 => e i (by omega) (by omega)) h2)
end Go.Proofs.YteegphdelekdaaaGreat

set_option linter.unusedVariables false
set_option linter.unusedSimpArgs false
namespace Go.Proofs.YteegphdelekdaaaGreat
open Go.Abs Go.IntWalk
set_option maxRecDepth 100000
attribute [local go_sem] eI eU eNs eN cN eChs eCh cCh eCos eCo cCo eP take_map
/-! Copies that are ours: commands, the program. -/
def szCo (x : PCommand) : Nat := 2 + x.2.length
def szCos : List PCommand → Nat
  | [] => 0
  | x :: t => szCo x + szCos t
/-- The two slices of a copied command, under the names from d. -/
def cellsCo' (d : Nat) (H : Heap) (x : PCommand) : List AV := [.ref d (H d).ver 0 x.1.length, .ref (d + 1) (H (d + 1)).ver 0 x.2.length]
def rCo (d : Nat) (H : Heap) : List PCommand → List AV
  | [] => []
  | x :: t => cellsCo' d H x ++ rCo (d + szCo x) H t
def atCo (d : Nat) (H : Heap) (x : PCommand) : Prop := atNs d H x.1 ∧ (∃ v, H (d + 1) = .cells v 143 2 (rCh (d + 2) H x.2)) ∧ atChs (d + 2) H x.2
def atCos (d : Nat) (H : Heap) : List PCommand → Prop
  | [] => True
  | x :: t => atCo d H x ∧ atCos (d + szCo x) H t
theorem szCos_app {x : PCommand} : ∀ {t : List PCommand}, szCos (t ++ [x]) = szCos t + szCo x
  | [] => by simp [szCos]
  | y :: t => by simp only [List.cons_append, szCos, szCos_app (t := t)]; omega
theorem szCos_take {t : List PCommand} {i : Nat} {x : PCommand} (h : t[i]? = some x) : szCos (t.take i) + szCo x ≤ szCos t := by
  induction t generalizing i with
  | nil => simp at h
  | cons y t ih =>
    cases i with
    | zero => simp at h; subst h; simp [szCos]
    | succ i => simp at h; have := ih h; simp only [List.take_succ_cons, szCos]; omega
theorem cellsCo_congr {d : Nat} {H H' : Heap} {x : PCommand} (h : ∀ i, d ≤ i → i < d + szCo x → H' i = H i) : cellsCo' d H' x = cellsCo' d H x := by
  unfold szCo at h
  unfold cellsCo'
  rw [h d (by omega) (by omega), h (d + 1) (by omega) (by omega)]
theorem atCo_congr {d : Nat} {H H' : Heap} {x : PCommand} (h : ∀ i, d ≤ i → i < d + szCo x → H' i = H i) (ha : atCo d H x) : atCo d H' x := by
  unfold szCo at h
  obtain ⟨h1, h2, h3⟩ := ha
  refine ⟨atNs_congr (h d (by omega) (by omega)) h1, ?_, atChs_congr (fun i h4 h5 => h i (by omega) (by omega)) h3⟩
  rw [h (d + 1) (by omega) (by omega), rCh_congr fun i h4 h5 => h i (by omega) (by omega)]
  exact h2
theorem rCo_app {H : Heap} {x : PCommand} : ∀ {t : List PCommand} {d : Nat}, rCo d H (t ++ [x]) = rCo d H t ++ cellsCo' (d + szCos t) H x
  | [], d => by simp [rCo, szCos]
  | y :: t, d => by simp only [rCo, List.cons_append, rCo_app (t := t), szCos, List.append_assoc, Nat.add_assoc]
theorem rCo_len {H : Heap} : ∀ {t : List PCommand} {d : Nat}, (rCo d H t).length = t.length * 2
  | [], d => rfl
  | x :: t, d => by simp only [rCo, List.length_append, rCo_len (t := t), cellsCo', List.length_cons, List.length_nil]; omega
theorem rCo_congr {H H' : Heap} : ∀ {t : List PCommand} {d : Nat}, (∀ i, d ≤ i → i < d + szCos t → H' i = H i) → rCo d H' t = rCo d H t
  | [], d, _ => rfl
  | x :: t, d, h => by
    simp only [szCos] at h
    simp only [rCo]
    rw [cellsCo_congr fun i h1 h2 => h i h1 (by omega), rCo_congr (t := t) fun i h1 h2 => h i (by omega) (by omega)]
theorem atCos_congr {H H' : Heap} : ∀ {t : List PCommand} {d : Nat}, (∀ i, d ≤ i → i < d + szCos t → H' i = H i) → atCos d H t → atCos d H' t
  | [], d, _, _ => trivial
  | x :: t, d, h, ha => by
    simp only [szCos] at h
    exact ⟨atCo_congr (fun i h1 h2 => h i h1 (by omega)) ha.1, atCos_congr (t := t) (fun i h1 h2 => h i (by omega) (by omega)) ha.2⟩
theorem atCos_app {H : Heap} {x : PCommand} : ∀ {t : List PCommand} {d : Nat}, atCos d H t → atCo (d + szCos t) H x → atCos d H (t ++ [x])
  | [], d, _, h => ⟨by simpa [szCos] using h, trivial⟩
  | y :: t, d, ha, h => ⟨ha.1, atCos_app (t := t) ha.2 (by rw [Nat.add_assoc]; exact h)⟩
theorem cellsCo_within {H : Heap} {D n d : Nat} {x : PCommand} (h1 : D ≤ d) (h2 : d + szCo x ≤ D + n) : withinL (inI D n) anyAV (cellsCo' d H x) = true := by
  unfold szCo at h2
  have e1 : inI D n d = true := inI_iff.2 ⟨h1, by omega⟩
  have e2 : inI D n (d + 1) = true := inI_iff.2 ⟨by omega, by omega⟩
  simp only [cellsCo', withinL, within, e1, e2, Bool.and_self]
theorem withinL_app {L : Nat → Bool} {q : AV → Bool} {a b : List AV} (h1 : withinL L q a = true) (h2 : withinL L q b = true) : withinL L q (a ++ b) = true := by
  rw [withinL_all] at *
  simp [h1, h2]
theorem rCo_within {H : Heap} {D n : Nat} : ∀ {t : List PCommand} {d : Nat}, D ≤ d → d + szCos t ≤ D + n → withinL (inI D n) anyAV (rCo d H t) = true
  | [], d, _, _ => rfl
  | x :: t, d, h1, h2 => by
    simp only [szCos] at h2
    exact withinL_app (cellsCo_within h1 (by omega)) (rCo_within (t := t) (by omega) (by omega))
theorem atCo_within {H : Heap} {D n d i v T sz : Nat} {x : PCommand} {cs : List AV} (ha : atCo d H x) (h1 : D ≤ d) (h2 : d + szCo x ≤ D + n) (h3 : d ≤ i) (h4 : i < d + szCo x) (hc : H i = .cells v T sz cs) : withinL (inI D n) anyAV cs = true := by
  unfold szCo at h2 h4
  obtain ⟨ha1, ⟨v2, ha2⟩, ha3⟩ := ha
  by_cases e : i = d
  · subst e; exact atNs_within ha1 hc
  · by_cases e : i = d + 1
    · subst e
      rw [ha2] at hc; cases hc
      exact rCh_within (by omega) (by omega)
    · exact atChs_within ha3 (by omega) (by omega) hc
theorem atCos_within {H : Heap} {D n : Nat} : ∀ {t : List PCommand} {d i v T sz : Nat} {cs : List AV}, atCos d H t → D ≤ d → d + szCos t ≤ D + n → d ≤ i → i < d + szCos t → H i = .cells v T sz cs → withinL (inI D n) anyAV cs = true
  | [], d, i, _, _, _, _, _, _, _, h3, h4, _ => by simp [szCos] at h4; omega
  | x :: t, d, i, _, _, _, _, ha, h1, h2, h3, h4, hc => by
    simp only [szCos] at h2 h4
    by_cases e : i < d + szCo x
    · exact atCo_within ha.1 h1 (by omega) h3 e hc
    · exact atCos_within (t := t) (d := d + szCo x) ha.2 (by omega) (by omega) (by omega) (by omega) hc
theorem o_toCommand {x : PCommand} {H : Heap} {K : AV → Heap → Prop} (d : Nat) (hd : 1000000 ≤ d) (hx : smCommand x) (hg : Gone d (szCo x) H)
    (hK : ∀ H', (∀ i, i < d ∨ d + szCo x ≤ i → H' i = H i) → atCo d H' x → K (.agg (cellsCo' d H' x)) H') : ACall Tryz.prog 108 [eCo x] H K := by
  refine ACall.iv (d := d) (n := szCo x) hd hg.cells rfl (R := fun r H' => r = .agg (cellsCo' d H' x) ∧ atCo d H' x) ?_ ?_
  · generalize hH : sub d (szCo x) H = Hs
    have hg : Gone d (szCo x) Hs := by rw [← hH]; exact hg.sub
    unfold szCo at hg
    have hd1 : 1000000 ≤ d + 1 := by omega
    refine call108 (by simp) ?_
    simp only [Tryz.results108, Tryz.ntmps108, Tryz.f108, Option.getD_some, pl108]
    simp only [go_sem]
    refine o_toNodeS (t := x.1) d hd hx.1 ?_ fun ver => ?_
    · obtain ⟨v, hv⟩ := hg d (by omega) (by omega)
      simp only [go_sem, eq_lo, eq_hi, hd, Nat.reduceLT, if_false, hv]
      exact ⟨v, rfl⟩
    · simp only [go_sem, eq_lo, eq_hi, hd, Nat.reduceLT, if_false]
      refine o_toChangeS (t := x.2) (d + 1) hd1 hx.2 ((hg.mono (by omega) (by omega)).congr fun i h1 h2 => ?_) fun ver2 H' hag h1 h2 => ?_
      · simp only [upd]
        repeat rw [if_neg (by omega)]
      · have hlo : ∀ i, i < 1000000 → H' i = _ := fun i hi => hag i (.inl (by omega))
        simp only [go_sem, hlo, eq_lo, eq_hi, hd, hd1, Nat.reduceLT, if_false]
        have e1 : H' d = .cells ver 94 2 (x.1.flatMap cN) := by
          rw [hag d (.inl (by omega))]
          simp only [upd, if_neg (show ¬ d = 3 by omega), if_true]
        have e : ∀ i, d ≤ i → ∀ a b : Blk, (upd (upd H' 3 a) 2 b) i = H' i := fun i hi a b => by
          simp only [upd]
          repeat rw [if_neg (by omega)]
        refine ⟨?_, atCo_congr (fun i h _ => e i h _ _) ⟨⟨ver, e1⟩, ⟨ver2, h1⟩, h2⟩⟩
        rw [cellsCo_congr fun i h _ => e i h _ _]
        simp only [cellsCo', e1, h1, Blk.ver]
  · rintro r H' ⟨rfl, h⟩
    have e : ∀ i, d ≤ i → i < d + szCo x → joi d (szCo x) H' H i = H' i := fun i h3 h4 => joi_in h3 h4
    refine ⟨_, .keep _ (cellsCo_within (by omega) (by omega)), fun i v T sz cs hi hc => ?_, ?_⟩
    · have hi := inI_iff.1 hi
      exact atCo_within h (by omega) (by omega) hi.1 hi.2 hc
    · rw [← cellsCo_congr e]
      exact hK _ (fun i hi => joi_out hi) (atCo_congr e h)
theorem k_toCommandS {t : List PCommand} {H : Heap} (d : Nat) (hd : 1000000 ≤ d) (ht : smCommandS t) (hg : Gone d (szCos t) H) : ACall Tryz.prog 54 [eCos t] H fun r H' => ∃ v cs, r = .ref 7 v 0 t.length ∧ H' 7 = .cells v 110 2 cs ∧ (cs = rCo d H' t ∧ atCos d H' t) := by
  have hl := ht.1
  refine call54 (by simp) ?_
  simp only [Tryz.results54, Tryz.ntmps54, Tryz.f54, Option.getD_some, pl54]
  simp only [go_sem]
  refine ⟨by omega, by omega, by omega, by omega, ?_⟩
  refine ALoop.intro (pl := pl54) (fun k env H => ∃ (i v : Nat) (C : List AV), env 0 = eCos t ∧ env 3 = .ref 7 v 0 t.length ∧ env 4 = I64 i ∧ H 7 = .cells v 110 2 C ∧ i + k = t.length ∧ C.length = t.length * 2 ∧ C.take (i * 2) = rCo d H (t.take i) ∧ atCos d H (t.take i) ∧ Gone (d + szCos (t.take i)) (szCos t - szCos (t.take i)) H) t.length (by kernel_rfl) ?_ ?_
  · simp only [go_sem]
    exact ⟨0, _, _, rfl, rfl, rfl, by omega, by rw [reps_len]; rfl, rfl, trivial, hg.congr fun i h1 h2 => upd_ne _ _ (by omega)⟩
  · rintro k env H ⟨i, v, C, e0, e3, e4, b7, hk, hC, hT, hA, hG⟩
    by_cases hz : (i : Int) < t.length
    · obtain ⟨x, hx⟩ := get_some (l := t) (i := i) (by omega)
      have h0 : (0 : Int) ≤ i := by omega
      have hw : IntKind.wrap .i64 ((i : Int) + 1) = i + 1 := i64_in _ (by omega)
      have hst := szCos_take hx
      have hdi : 1000000 ≤ d + szCos (t.take i) := by omega
      simp only [go_sem, pl54, e0, e3, e4, b7, hz, hx, h0]
      refine o_toCommand (x := x) (d + szCos (t.take i)) hdi (ht.2 x (List.mem_of_getElem? hx)) (hG.mono (by omega) (by omega)) fun H' hag h1 => ?_
      have hlo : ∀ j, j < 1000000 → H' j = H j := fun j hj => hag j (.inl (by omega))
      simp only [go_sem, pl54, e0, e3, e4, b7, hz, hx, h0, hw, hlo, cellsCo', Nat.reduceLT]
      have hst1 : szCos (t.take (i + 1)) = szCos (t.take i) + szCo x := by rw [take_one hx, szCos_app]
      refine ⟨by omega, k - 1, by omega, i + 1, _, _, rfl, rfl, rfl, by omega, ?_, ?_, ?_, ?_⟩
      · rw [← hC]; exact put_len (xs := cellsCo' (d + szCos (t.take i)) H' x) (by rw [hC]; show i * 2 + 2 ≤ _; omega)
      · rw [Nat.succ_mul]
        refine (put_take (xs := cellsCo' (d + szCos (t.take i)) H' x) (by rw [hC]; show i * 2 + 2 ≤ _; omega)).trans ?_
        rw [hT, take_one hx, rCo_app]
        congr 1
        · exact (rCo_congr fun j h1 h2 => by rw [upd_ne _ _ (by omega), hag j (.inl h2)]).symm
        · exact (cellsCo_congr fun j h1 h2 => upd_ne _ _ (by omega)).symm
      · rw [take_one hx]
        exact atCos_app (atCos_congr (fun j h1 h2 => by rw [upd_ne _ _ (by omega), hag j (.inl h2)]) hA) (atCo_congr (fun j h1 h2 => upd_ne _ _ (by omega)) h1)
      · rw [hst1]
        exact (hG.mono (d' := d + (szCos (t.take i) + szCo x)) (by omega) (by omega)).congr fun j h1 h2 => by rw [upd_ne _ _ (by omega), hag j (.inr (by omega))]
    · simp only [go_sem, e0, e3, e4, b7, hz]
      rw [List.take_of_length_le (by omega), List.take_of_length_le (by omega)] at hT
      rw [List.take_of_length_le (by omega)] at hA
      exact ⟨v, _, rfl, rfl, hT, hA⟩
theorem o_toCommandS {t : List PCommand} {H : Heap} {K : AV → Heap → Prop} (d : Nat) (hd : 1000000 ≤ d) (ht : smCommandS t) (hg : Gone d (1 + szCos t) H)
    (hK : ∀ ver H', (∀ i, i < d ∨ d + (1 + szCos t) ≤ i → H' i = H i) → H' d = .cells ver 110 2 (rCo (d + 1) H' t) → atCos (d + 1) H' t → K (.ref d ver 0 t.length) H') : ACall Tryz.prog 54 [eCos t] H K := by
  refine ACall.iv (d := d) (n := 1 + szCos t) hd hg.cells rfl (R := fun r H' => ∃ ver, r = .ref d ver 0 t.length ∧ H' d = .cells ver 110 2 (rCo (d + 1) H' t) ∧ atCos (d + 1) H' t) ?_ ?_
  · refine ACall.named d hd (s := 7) (by omega) (k_toCommandS (d + 1) (by omega) ht (hg.sub.mono (by omega) (by omega))) ?_
    rintro v ver cs H' ⟨rfl, hA⟩
    have e : ∀ i, d + 1 ≤ i → upd (upd H' 7 (.gone v)) d (.cells ver 110 2 (rCo (d + 1) H' t)) i = H' i := fun i h => by rw [upd_ne _ _ (by omega), upd_ne _ _ (by omega)]
    exact ⟨ver, rfl, by rw [upd_same, rCo_congr fun i h _ => e i h], atCos_congr (fun i h _ => e i h) hA⟩
  · rintro r H' ⟨ver, rfl, h1, h2⟩
    refine ⟨_, .keep _ (inI_iff.2 (by omega)), ?_, ?_⟩
    · intro i v T sz cs hi hc
      have hi := inI_iff.1 hi
      by_cases e : i = d
      · subst e
        rw [h1] at hc; cases hc
        exact rCo_within (by omega) (by omega)
      · exact atCos_within h2 (by omega) (by omega) (by omega) (by omega) hc
    · have e : ∀ i, d ≤ i → i < d + (1 + szCos t) → joi d (1 + szCos t) H' H i = H' i := fun i h3 h4 => joi_in h3 h4
      have er : rCo (d + 1) (joi d (1 + szCos t) H' H) t = rCo (d + 1) H' t := rCo_congr fun i h3 h4 => e i (by omega) (by omega)
      exact hK ver _ (fun i hi => joi_out hi) (by rw [e d (by omega) (by omega), h1, er]) (atCos_congr (fun i h3 h4 => e i (by omega) (by omega)) h2)
/-- The copied program. -/
def szP (p : PProg) : Nat := 2 + szCos p.2.2.2
def oP (d : Nat) (H : Heap) (p : PProg) : List AV := [I64 p.1, I64 p.2.1, .ref d (H d).ver 0 p.2.2.1.length, .ref (d + 1) (H (d + 1)).ver 0 p.2.2.2.length]
def atP (d : Nat) (H : Heap) (p : PProg) : Prop := atNs d H p.2.2.1 ∧ (∃ v, H (d + 1) = .cells v 110 2 (rCo (d + 2) H p.2.2.2)) ∧ atCos (d + 2) H p.2.2.2
theorem oP_congr {d : Nat} {H H' : Heap} {p : PProg} (h : ∀ i, d ≤ i → i < d + szP p → H' i = H i) : oP d H' p = oP d H p := by
  unfold szP at h
  unfold oP
  rw [h d (by omega) (by omega), h (d + 1) (by omega) (by omega)]
theorem atP_congr {d : Nat} {H H' : Heap} {p : PProg} (h : ∀ i, d ≤ i → i < d + szP p → H' i = H i) (ha : atP d H p) : atP d H' p := by
  unfold szP at h
  obtain ⟨h1, h2, h3⟩ := ha
  refine ⟨atNs_congr (h d (by omega) (by omega)) h1, ?_, atCos_congr (fun i h4 h5 => h i (by omega) (by omega)) h3⟩
  rw [h (d + 1) (by omega) (by omega), rCo_congr fun i h4 h5 => h i (by omega) (by omega)]
  exact h2
theorem oP_within {H : Heap} {D n d : Nat} {p : PProg} (h1 : D ≤ d) (h2 : d + szP p ≤ D + n) : withinL (inI D n) anyAV (oP d H p) = true := by
  unfold szP at h2
  have e1 : inI D n d = true := inI_iff.2 ⟨h1, by omega⟩
  have e2 : inI D n (d + 1) = true := inI_iff.2 ⟨by omega, by omega⟩
  simp only [oP, withinL, within, e1, e2, Bool.and_self]
theorem atP_within {H : Heap} {D n d i v T sz : Nat} {p : PProg} {cs : List AV} (ha : atP d H p) (h1 : D ≤ d) (h2 : d + szP p ≤ D + n) (h3 : d ≤ i) (h4 : i < d + szP p) (hc : H i = .cells v T sz cs) : withinL (inI D n) anyAV cs = true := by
  unfold szP at h2 h4
  obtain ⟨ha1, ⟨v2, ha2⟩, ha3⟩ := ha
  by_cases e : i = d
  · subst e; exact atNs_within ha1 hc
  · by_cases e : i = d + 1
    · subst e
      rw [ha2] at hc; cases hc
      exact rCo_within (by omega) (by omega)
    · exact atCos_within ha3 (by omega) (by omega) (by omega) (by omega) hc
theorem o_toProgram {p : PProg} {H : Heap} {K : AV → Heap → Prop} (d : Nat) (hd : 1000000 ≤ d) (hx : smProgram p) (hg : Gone d (szP p) H)
    (hK : ∀ H', (∀ i, i < d ∨ d + szP p ≤ i → H' i = H i) → atP d H' p → K (.agg (oP d H' p)) H') : ACall Tryz.prog 14 [eP p] H K := by
  refine ACall.iv (d := d) (n := szP p) hd hg.cells rfl (R := fun r H' => r = .agg (oP d H' p) ∧ atP d H' p) ?_ ?_
  · generalize hH : sub d (szP p) H = Hs
    have hg : Gone d (szP p) Hs := by rw [← hH]; exact hg.sub
    unfold szP at hg
    have hd1 : 1000000 ≤ d + 1 := by omega
    refine call14 (by simp) ?_
    simp only [Tryz.results14, Tryz.ntmps14, Tryz.f14, Option.getD_some, pl14]
    simp only [go_sem]
    refine o_toNodeS (t := p.2.2.1) d hd hx.1 ?_ fun ver => ?_
    · obtain ⟨v, hv⟩ := hg d (by omega) (by omega)
      simp only [go_sem, eq_lo, eq_hi, hd, Nat.reduceLT, if_false, hv]
      exact ⟨v, rfl⟩
    · simp only [go_sem, eq_lo, eq_hi, hd, Nat.reduceLT, if_false]
      refine o_toCommandS (t := p.2.2.2) (d + 1) hd1 hx.2 ((hg.mono (by omega) (by omega)).congr fun i h1 h2 => ?_) fun ver2 H' hag h1 h2 => ?_
      · simp only [upd]
        repeat rw [if_neg (by omega)]
      · have hlo : ∀ i, i < 1000000 → H' i = _ := fun i hi => hag i (.inl (by omega))
        simp only [go_sem, hlo, eq_lo, eq_hi, hd, hd1, Nat.reduceLT, if_false]
        have e1 : H' d = .cells ver 94 2 (p.2.2.1.flatMap cN) := by
          rw [hag d (.inl (by omega))]
          simp only [upd, if_neg (show ¬ d = 3 by omega), if_true]
        have e : ∀ i, d ≤ i → ∀ a b : Blk, (upd (upd H' 3 a) 2 b) i = H' i := fun i hi a b => by
          simp only [upd]
          repeat rw [if_neg (by omega)]
        refine ⟨?_, atP_congr (fun i h _ => e i h _ _) ⟨⟨ver, e1⟩, ⟨ver2, h1⟩, h2⟩⟩
        rw [oP_congr fun i h _ => e i h _ _]
        simp only [oP, e1, h1, Blk.ver]
  · rintro r H' ⟨rfl, h⟩
    have e : ∀ i, d ≤ i → i < d + szP p → joi d (szP p) H' H i = H' i := fun i h3 h4 => joi_in h3 h4
    refine ⟨_, .keep _ (oP_within (by omega) (by omega)), fun i v T sz cs hi hc => ?_, ?_⟩
    · have hi := inI_iff.1 hi
      exact atP_within h (by omega) (by omega) hi.1 hi.2 hc
    · rw [← oP_congr e]
      exact hK _ (fun i hi => joi_out hi) (atP_congr e h)
end Go.Proofs.YteegphdelekdaaaGreat

set_option linter.unusedVariables false
set_option linter.unusedSimpArgs false
namespace Go.Proofs.YteegphdelekdaaaGreat
open Go.Abs Go.IntWalk
set_option maxRecDepth 100000
attribute [local go_sem] eI eU eNs eN cN eChs eCh cCh eCos eCo cCo eP take_map
/-! What is ours, lent. -/
theorem flat_e {α : Type} {e : α → AV} {c : α → List AV} (h : ∀ x, flat (e x) = c x) : ∀ t : List α, (t.map e).flatMap flat = t.flatMap c
  | [] => rfl
  | a :: t => by rw [List.map_cons, List.flatMap_cons, List.flatMap_cons, flat_e h t, h]
theorem len2 {α : Type} {c : α → List AV} (h : ∀ x, (c x).length = 2) : ∀ t : List α, (t.flatMap c).length = t.length * 2
  | [] => rfl
  | a :: t => by rw [List.flatMap_cons, List.length_append, h, len2 h t, List.length_cons]; omega
theorem fr_ns {H : Heap} {β : Nat → Bool} {d : Nat} {t : List PNode} (ha : atNs d H t) (hb : β d = true) : FRes H β anyAV (.ref d (H d).ver 0 t.length) (eNs t) := by
  obtain ⟨v, h⟩ := ha
  have := FRes.slice (H := H) (β := β) (id := d) (ver := v) (T := 94) (sz := 2) (cs := t.flatMap cN) (pre := []) (post := []) (off := 0) (es := t.map eN) hb h (by rw [flat_e (c := cN) (fun _ => rfl)]; simp) rfl
    (fun e he => by obtain ⟨x, _, rfl⟩ := List.mem_map.1 he; rfl) (fun e he y hy => by obtain ⟨x, _, rfl⟩ := List.mem_map.1 he; simp [flat, eN, cN] at hy; rcases hy with rfl | rfl <;> rfl)
  rw [List.length_map] at this
  rw [h]; exact this
theorem fr_chc {H : Heap} {β : Nat → Bool} : ∀ {t : List PChange} {d : Nat}, atChs d H t → (∀ i, d ≤ i → i < d + t.length → β i = true) → ∀ (k : Nat) (x y : AV), (rCh d H t)[k]? = some x → (t.flatMap cCh)[k]? = some y → FRes H β anyAV x y
  | [], d, _, _, k, x, y, hx, _ => by simp [rCh] at hx
  | c :: t, d, ha, hb, k, x, y, hx, hy => by
    rw [List.flatMap_cons] at hy
    match k with
    | 0 => simp [rCh, cCh] at hx hy; subst hx hy; exact .cl _ rfl
    | 1 => simp [rCh, cCh] at hx hy; subst hx hy; exact fr_ns ha.1 (hb d (by omega) (by simp only [List.length_cons]; omega))
    | k + 2 =>
      simp [rCh, cCh] at hx hy
      exact fr_chc (t := t) (d := d + 1) ha.2 (fun i h1 h2 => hb i (by omega) (by simp only [List.length_cons]; omega)) k x y hx (by simpa [cCh] using hy)
theorem fr_chs {H : Heap} {β : Nat → Bool} {d v : Nat} {t : List PChange} (h : H d = .cells v 143 2 (rCh (d + 1) H t)) (ha : atChs (d + 1) H t) (hb : ∀ i, d ≤ i → i < d + (1 + t.length) → β i = true) : FRes H β anyAV (.ref d (H d).ver 0 t.length) (eChs t) := by
  rw [h]
  refine .ref d v 0 t.length _ 2 _ (t.map eCh) (hb d (by omega) (by omega)) h (by simp) (by rw [rCh_len]; omega) (fun j e he => ?_) fun k x y hx hy => ?_
  · obtain ⟨c, _, rfl⟩ := List.mem_map.1 (List.mem_of_getElem? he); rfl
  · rw [flat_e (c := cCh) (fun _ => rfl)] at hy
    rw [Nat.zero_add] at hx
    exact fr_chc ha (fun i h1 h2 => hb i (by omega) (by omega)) k x y hx hy
theorem fr_coc {H : Heap} {β : Nat → Bool} : ∀ {t : List PCommand} {d : Nat}, atCos d H t → (∀ i, d ≤ i → i < d + szCos t → β i = true) → ∀ (k : Nat) (x y : AV), (rCo d H t)[k]? = some x → (t.flatMap cCo)[k]? = some y → FRes H β anyAV x y
  | [], d, _, _, k, x, y, hx, _ => by simp [rCo] at hx
  | c :: t, d, ha, hb, k, x, y, hx, hy => by
    simp only [szCos, szCo] at hb
    rw [List.flatMap_cons] at hy
    match k with
    | 0 => simp [rCo, cellsCo', cCo] at hx hy; subst hx hy; exact fr_ns ha.1.1 (hb d (by omega) (by omega))
    | 1 =>
      simp [rCo, cellsCo', cCo] at hx hy; subst hx hy
      obtain ⟨v, h2⟩ := ha.1.2.1
      exact fr_chs h2 ha.1.2.2 fun i h3 h4 => hb i (by omega) (by omega)
    | k + 2 =>
      simp [rCo, cellsCo', cCo] at hx hy
      exact fr_coc (t := t) (d := d + szCo c) ha.2 (fun i h1 h2 => hb i (by unfold szCo at h1; omega) (by unfold szCo at h2; omega)) k x y hx (by simpa [cCo] using hy)
theorem fr_cos {H : Heap} {β : Nat → Bool} {d v : Nat} {t : List PCommand} (h : H d = .cells v 110 2 (rCo (d + 1) H t)) (ha : atCos (d + 1) H t) (hb : ∀ i, d ≤ i → i < d + (1 + szCos t) → β i = true) : FRes H β anyAV (.ref d (H d).ver 0 t.length) (eCos t) := by
  rw [h]
  refine .ref d v 0 t.length _ 2 _ (t.map eCo) (hb d (by omega) (by omega)) h (by simp) (by rw [rCo_len]; omega) (fun j e he => ?_) fun k x y hx hy => ?_
  · obtain ⟨c, _, rfl⟩ := List.mem_map.1 (List.mem_of_getElem? he); rfl
  · rw [flat_e (c := cCo) (fun _ => rfl)] at hy
    rw [Nat.zero_add] at hx
    exact fr_coc ha (fun i h1 h2 => hb i (by omega) (by omega)) k x y hx hy
theorem fr_p {H : Heap} {β : Nat → Bool} {d : Nat} {p : PProg} (ha : atP d H p) (hb : ∀ i, d ≤ i → i < d + szP p → β i = true) : FRes H β anyAV (.agg (oP d H p)) (eP p) := by
  unfold szP at hb
  refine .agg _ _ rfl fun i x y hx hy => ?_
  match i with
  | 0 => simp [oP] at hx hy; subst hx hy; exact .cl _ rfl
  | 1 => simp [oP] at hx hy; subst hx hy; exact .cl _ rfl
  | 2 => simp [oP] at hx hy; subst hx hy; exact fr_ns ha.1 (hb d (by omega) (by omega))
  | 3 =>
    simp [oP] at hx hy; subst hx hy
    obtain ⟨v, h⟩ := ha.2.1
    exact fr_cos h ha.2.2 fun i h1 h2 => hb i (by omega) (by omega)
  | i + 4 => simp [oP] at hx
end Go.Proofs.YteegphdelekdaaaGreat

set_option linter.unusedVariables false
set_option linter.unusedSimpArgs false
namespace Go.Proofs.YteegphdelekdaaaGreat
open Go.Abs Go.IntWalk
set_option maxRecDepth 100000
attribute [local go_sem] eI eU eNs eN cN eChs eCh cCh eCos eCo cCo eP take_map
/-! What is ours, overwritten. -/
theorem closedL_set : ∀ {C : List AV} {i : Nat} {x : AV}, closedL C = true → x.closed = true → closedL (C.set i x) = true
  | [], i, x, _, _ => by cases i <;> rfl
  | a :: C, 0, x, h, hx => by
    simp only [closedL, List.all_cons, Bool.and_eq_true] at h
    simp only [List.set_cons_zero, closedL, List.all_cons, Bool.and_eq_true]
    exact ⟨hx, h.2⟩
  | a :: C, i + 1, x, h, hx => by
    simp only [closedL, List.all_cons, Bool.and_eq_true] at h
    have := closedL_set (C := C) (i := i) (x := x) h.2 hx
    simp only [closedL] at this
    simp only [List.set_cons_succ, closedL, List.all_cons, Bool.and_eq_true]
    exact ⟨h.1, this⟩
theorem o_markNodeS {d v n : Nat} {C : List AV} {k : Int} {H : Heap} {K : AV → Heap → Prop} (hd : 1000000 ≤ d) (hH : H d = .cells v 94 2 C) (hC : C.length = n * 2) (hcl : closedL C = true) (hn : n ≤ 1048576) (hk0 : 0 ≤ k) (hk : k ≤ 9223372036800000000)
    (hK : ∀ k' C', C'.length = n * 2 → closedL C' = true → k ≤ k' → k' ≤ k + 2097152 → K (I64 k') (upd H d (.cells v 94 2 C'))) : ACall Tryz.prog 59 [.ref d v 0 n, I64 k] H K := by
  have hin : inI d 1 d = true := inI_iff.2 (by omega)
  refine ACall.iv (d := d) (n := 1) hd ?_ ?_ (R := fun r H' => ∃ k' C', r = I64 k' ∧ H' d = .cells v 94 2 C' ∧ C'.length = n * 2 ∧ closedL C' = true ∧ k ≤ k' ∧ k' ≤ k + 2097152) ?_ ?_
  · intro i v T sz cs hi hc
    have := inI_iff.1 hi
    rw [show i = d by omega, hH] at hc
    cases hc; exact withinL_cl hcl
  · simp only [withinL, within, hin, Bool.and_self]
  · generalize hHs : sub d 1 H = Hs
    have hs : Hs d = .cells v 94 2 C := by rw [← hHs, sub_in (by omega) (by omega), hH]
    clear hHs
    refine call59 (by simp) ?_
    simp only [Tryz.results59, Tryz.ntmps59, Tryz.f59, Option.getD_some, pl59]
    simp only [go_sem]
    refine ALoop.intro (pl := pl59) (fun q env H => ∃ (i : Nat) (C : List AV), env 0 = .ref d v 0 n ∧ env 1 = I64 (k + 2 * i) ∧ env 5 = I64 i ∧ H d = .cells v 94 2 C ∧ i + q = n ∧ C.length = n * 2 ∧ closedL C = true) n (by kernel_rfl) ?_ ?_
    · simp only [go_sem]
      exact ⟨0, C, by simp, rfl, hs, by omega, hC, hcl⟩
    · rintro q env H ⟨i, C, e0, e1, e5, bd, hq, hC, hcl⟩
      by_cases hz : (i : Int) < n
      · have h0 : (0 : Int) ≤ i := by omega
        have hw : IntKind.wrap .i64 ((i : Int) + 1) = i + 1 := i64_in _ (by omega)
        have hw1 : IntKind.wrap .i64 (k + 2 * (i : Int) + 1) = k + 2 * i + 1 := i64_in _ (by omega)
        have hw2 : IntKind.wrap .i64 (k + 2 * (i : Int) + 1 + 1) = k + 2 * ((i + 1 : Nat) : Int) := by rw [i64_in _ (by omega)]; omega
        simp only [go_sem, pl59, e0, e1, e5, bd, hz, h0, hw, hw1, hw2]
        have hne : ∀ {C : List AV}, C.length = n * 2 → ¬ C = [] := fun {C} hC e => by rw [e] at hC; simp at hC; omega
        exact ⟨hne hC, by omega, hne (by rw [List.length_set]; exact hC), by rw [List.length_set]; omega, q - 1, by omega, i + 1, _, rfl, rfl, rfl, by omega, by rw [List.length_set, List.length_set]; exact hC, closedL_set (closedL_set hcl rfl) rfl⟩
      · simp only [go_sem, e0, e1, e5, bd, hz]
        exact ⟨_, C, rfl, rfl, hC, hcl, by omega, by omega⟩
  · rintro r H' ⟨k', C', rfl, h, h1, h2, h3, h4⟩
    refine ⟨_, .keep _ rfl, fun i v T sz cs hi hc => ?_, ?_⟩
    · have := inI_iff.1 hi
      rw [show i = d by omega, h] at hc
      cases hc; exact withinL_cl h2
    · rw [joi_one h]; exact hK _ _ h1 h2 h3 h4
/-! What stays while ours is overwritten: versions, kinds, lengths, the slices inside. -/
def ShN (ν : Nat → Nat) (H : Heap) (d n : Nat) : Prop := ∃ C, H d = .cells (ν d) 94 2 C ∧ C.length = n * 2 ∧ closedL C = true
def ShCh (ν : Nat → Nat) (H : Heap) (D : Nat) (t : List PChange) : Prop :=
  (∃ C, H D = .cells (ν D) 143 2 C ∧ C.length = t.length * 2 ∧ ∀ (j : Nat) (x : PChange), t[j]? = some x → ∃ m, C[j * 2]? = some (I64 m) ∧ C[j * 2 + 1]? = some (.ref (D + 1 + j) (ν (D + 1 + j)) 0 x.2.length)) ∧
    ∀ (j : Nat) (x : PChange), t[j]? = some x → ShN ν H (D + 1 + j) x.2.length
theorem ShN.congr {ν : Nat → Nat} {H H' : Heap} {d n : Nat} (h : H' d = H d) (hs : ShN ν H d n) : ShN ν H' d n := by unfold ShN; rw [h]; exact hs
theorem ShN.within {ν : Nat → Nat} {H : Heap} {d n v T sz : Nat} {cs : List AV} {L : Nat → Bool} (hs : ShN ν H d n) (hc : H d = .cells v T sz cs) : withinL L anyAV cs = true := by
  obtain ⟨C, h1, _, h2⟩ := hs
  rw [h1] at hc; cases hc
  exact withinL_cl h2
theorem ShCh.congr {ν : Nat → Nat} {H H' : Heap} {D : Nat} {t : List PChange} (h : ∀ i, D ≤ i → i < D + (1 + t.length) → H' i = H i) (hs : ShCh ν H D t) : ShCh ν H' D t := by
  obtain ⟨h1, h2⟩ := hs
  refine ⟨by rw [h D (by omega) (by omega)]; exact h1, fun j x hx => (h2 j x hx).congr (h _ (by omega) ?_)⟩
  have := (List.getElem?_eq_some_iff.1 hx).1; omega
theorem ShCh.within {ν : Nat → Nat} {H : Heap} {D E n i v T sz : Nat} {t : List PChange} {cs : List AV} (hs : ShCh ν H D t) (h1 : E ≤ D) (h2 : D + (1 + t.length) ≤ E + n) (h3 : D ≤ i) (h4 : i < D + (1 + t.length)) (hc : H i = .cells v T sz cs) : withinL (inI E n) anyAV cs = true := by
  obtain ⟨⟨C, e1, e2, e3⟩, e4⟩ := hs
  by_cases e : i = D
  · subst e
    rw [e1] at hc; cases hc
    rw [withinL_all, List.all_eq_true]
    intro a ha
    obtain ⟨k, hk⟩ := List.getElem?_of_mem ha
    have hkl := (List.getElem?_eq_some_iff.1 hk).1
    obtain ⟨x, hx⟩ := get_some (l := t) (i := k / 2) (by omega)
    obtain ⟨m, h5, h6⟩ := e3 _ x hx
    rcases Nat.mod_two_eq_zero_or_one k with hm | hm
    · rw [show k / 2 * 2 = k by omega, hk] at h5; cases h5; rfl
    · rw [show k / 2 * 2 + 1 = k by omega, hk] at h6; cases h6
      exact inI_iff.2 ⟨by omega, by omega⟩
  · obtain ⟨x, hx⟩ := get_some (l := t) (i := i - (D + 1)) (by omega)
    have := e4 _ x hx
    rw [show D + 1 + (i - (D + 1)) = i by omega] at this
    exact this.within hc
theorem o_markChangeS {ν : Nat → Nat} {D : Nat} {t : List PChange} {k : Int} {H : Heap} {K : AV → Heap → Prop} (hD : 1000000 ≤ D) (hs : ShCh ν H D t) (hsm : smChangeS t) (hk0 : 0 ≤ k) (hk : k ≤ 9223360000000000000)
    (hK : ∀ k' H', (∀ i, i < D ∨ D + (1 + t.length) ≤ i → H' i = H i) → ShCh ν H' D t → k ≤ k' → k' ≤ k + 2199024304128 → K (I64 k') H') : ACall Tryz.prog 114 [.ref D (ν D) 0 t.length, I64 k] H K := by
  have hn := hsm.1
  have hin : inI D (1 + t.length) D = true := inI_iff.2 (by omega)
  refine ACall.iv (d := D) (n := 1 + t.length) hD (fun i v T sz cs hi hc => hs.within (by omega) (by omega) (inI_iff.1 hi).1 (inI_iff.1 hi).2 hc) ?_ (R := fun r H' => ∃ k', r = I64 k' ∧ ShCh ν H' D t ∧ k ≤ k' ∧ k' ≤ k + 2199024304128) ?_ ?_
  · simp only [withinL, within, hin, Bool.and_self]
  · generalize hHs : sub D (1 + t.length) H = Hs
    have hs : ShCh ν Hs D t := by rw [← hHs]; exact hs.congr fun i h1 h2 => sub_in h1 h2
    clear hHs
    refine call114 (by simp) ?_
    simp only [Tryz.results114, Tryz.ntmps114, Tryz.f114, Option.getD_some, pl114]
    simp only [go_sem]
    refine ALoop.intro (pl := pl114) (fun q env H => ∃ (i : Nat) (m : Int), env 0 = .ref D (ν D) 0 t.length ∧ env 1 = I64 m ∧ env 5 = I64 i ∧ ShCh ν H D t ∧ i + q = t.length ∧ k ≤ m ∧ m ≤ k + 2097153 * i) t.length (by kernel_rfl) ?_ ?_
    · simp only [go_sem]
      exact ⟨0, _, rfl, rfl, hs, by omega, by omega, by omega⟩
    · rintro q env H ⟨i, m, e0, e1, e5, ⟨⟨C, bD, hC, hcs⟩, hin⟩, hq, hm1, hm2⟩
      by_cases hz : (i : Int) < t.length
      · have h0 : (0 : Int) ≤ i := by omega
        obtain ⟨x, hx⟩ := get_some (l := t) (i := i) (by omega)
        have hw : IntKind.wrap .i64 ((i : Int) + 1) = i + 1 := i64_in _ (by omega)
        have hw1 : IntKind.wrap .i64 (m + 1) = m + 1 := i64_in _ (by omega)
        obtain ⟨n0, c0, c1⟩ := hcs i x hx
        have c1' : (C.set (i * 2) (AV.int .i64 m))[i * 2 + 1]? = some (.ref (D + 1 + i) (ν (D + 1 + i)) 0 x.2.length) := by rw [List.getElem?_set_ne (by omega)]; exact c1
        have hne : ∀ {C : List AV}, C.length = t.length * 2 → ¬ C = [] := fun {C} hC e => by rw [e] at hC; simp at hC; omega
        simp only [go_sem, pl114, e0, e1, e5, bD, hz, h0, hw, hw1, c0, c1, c1']
        refine ⟨hne hC, by omega, hne (by rw [List.length_set]; exact hC), ?_⟩
        obtain ⟨C1, g1, g2, g3⟩ := hin i x hx
        have hxs := hsm.2 x (List.mem_of_getElem? hx)
        refine o_markNodeS (d := D + 1 + i) (by omega) (v := ν (D + 1 + i)) (C := C1) (by rw [upd_ne _ _ (by omega)]; exact g1) g2 g3 hxs.1 (by omega) (by omega) fun k' C' g4 g5 g6 g7 => ?_
        simp only [go_sem, pl114, e0, e1, e5, bD, hz, h0, hw, hw1]
        refine ⟨q - 1, by omega, i + 1, _, rfl, rfl, ?_, by omega, by omega, by omega⟩
        refine ⟨⟨_, by rw [upd_ne _ _ (by omega), upd_same], by rw [List.length_set]; exact hC, fun j y hy => ?_⟩, fun j y hy => ?_⟩
        · obtain ⟨n1, c2, c3⟩ := hcs j y hy
          refine ⟨if j = i then m else n1, ?_, by rw [List.getElem?_set_ne (by omega)]; exact c3⟩
          by_cases e : j = i
          · subst e; rw [List.getElem?_set_self (by omega), if_pos rfl]
          · rw [List.getElem?_set_ne (by omega), if_neg e]; exact c2
        · by_cases e : j = i
          · subst e
            rw [hx] at hy; cases hy
            exact ⟨C', upd_same .., g4, g5⟩
          · exact (hin j y hy).congr (by rw [upd_ne _ _ (by omega), upd_ne _ _ (by omega)])
      · simp only [go_sem, e0, e1, e5, bD, hz]
        exact ⟨_, rfl, ⟨⟨C, bD, hC, hcs⟩, hin⟩, hm1, by omega⟩
  · rintro r H' ⟨k', rfl, h1, h2, h3⟩
    refine ⟨_, .keep _ rfl, fun i v T sz cs hi hc => h1.within (by omega) (by omega) (inI_iff.1 hi).1 (inI_iff.1 hi).2 hc, hK _ _ (fun i hi => joi_out hi) (h1.congr fun i h4 h5 => joi_in h4 h5) h2 h3⟩
end Go.Proofs.YteegphdelekdaaaGreat

set_option linter.unusedVariables false
set_option linter.unusedSimpArgs false
namespace Go.Proofs.YteegphdelekdaaaGreat
open Go.Abs Go.IntWalk
set_option maxRecDepth 100000
attribute [local go_sem] eI eU eNs eN cN eChs eCh cCh eCos eCo cCo eP take_map
def ShCo (ν : Nat → Nat) (H : Heap) (d : Nat) (x : PCommand) : Prop := ShN ν H d x.1.length ∧ ShCh ν H (d + 1) x.2
def ShCos (ν : Nat → Nat) (H : Heap) (D : Nat) (t : List PCommand) : Prop :=
  (∃ C, H D = .cells (ν D) 110 2 C ∧ C.length = t.length * 2 ∧ ∀ (j : Nat) (x : PCommand), t[j]? = some x →
      C[j * 2]? = some (.ref (D + 1 + szCos (t.take j)) (ν (D + 1 + szCos (t.take j))) 0 x.1.length) ∧ C[j * 2 + 1]? = some (.ref (D + 1 + szCos (t.take j) + 1) (ν (D + 1 + szCos (t.take j) + 1)) 0 x.2.length)) ∧
    ∀ (j : Nat) (x : PCommand), t[j]? = some x → ShCo ν H (D + 1 + szCos (t.take j)) x
theorem ShCo.congr {ν : Nat → Nat} {H H' : Heap} {d : Nat} {x : PCommand} (h : ∀ i, d ≤ i → i < d + szCo x → H' i = H i) (hs : ShCo ν H d x) : ShCo ν H' d x := by
  unfold szCo at h
  exact ⟨hs.1.congr (h d (by omega) (by omega)), hs.2.congr fun i h1 h2 => h i (by omega) (by omega)⟩
theorem ShCo.within {ν : Nat → Nat} {H : Heap} {d E n i v T sz : Nat} {x : PCommand} {cs : List AV} (hs : ShCo ν H d x) (h1 : E ≤ d) (h2 : d + szCo x ≤ E + n) (h3 : d ≤ i) (h4 : i < d + szCo x) (hc : H i = .cells v T sz cs) : withinL (inI E n) anyAV cs = true := by
  unfold szCo at h2 h4
  by_cases e : i = d
  · subst e; exact hs.1.within hc
  · exact hs.2.within (by omega) (by omega) (by omega) (by omega) hc
theorem szCos_lt {t : List PCommand} {j k : Nat} {x : PCommand} (hx : t[j]? = some x) (h : j < k) : szCos (t.take j) + szCo x ≤ szCos (t.take k) := by
  have h1 : (t.take k)[j]? = some x := by rw [List.getElem?_take_of_lt h]; exact hx
  have := szCos_take h1
  rwa [List.take_take, Nat.min_eq_left (by omega)] at this
/-- The command under a name. -/
theorem szCos_find {t : List PCommand} {i : Nat} (h : i < szCos t) : ∃ j x, t[j]? = some x ∧ szCos (t.take j) ≤ i ∧ i < szCos (t.take j) + szCo x := by
  induction t generalizing i with
  | nil => simp [szCos] at h
  | cons y t ih =>
    simp only [szCos] at h
    by_cases e : i < szCo y
    · exact ⟨0, y, rfl, by simp [szCos], by simp [szCos]; exact e⟩
    · obtain ⟨j, x, h1, h2, h3⟩ := ih (i := i - szCo y) (by omega)
      exact ⟨j + 1, x, h1, by simp only [List.take_succ_cons, szCos]; omega, by simp only [List.take_succ_cons, szCos]; omega⟩
theorem ShCos.congr {ν : Nat → Nat} {H H' : Heap} {D : Nat} {t : List PCommand} (h : ∀ i, D ≤ i → i < D + (1 + szCos t) → H' i = H i) (hs : ShCos ν H D t) : ShCos ν H' D t := by
  obtain ⟨h1, h2⟩ := hs
  refine ⟨by rw [h D (by omega) (by omega)]; exact h1, fun j x hx => (h2 j x hx).congr fun i h3 h4 => h i (by omega) ?_⟩
  have := szCos_take hx; omega
theorem ShCos.within {ν : Nat → Nat} {H : Heap} {D E n i v T sz : Nat} {t : List PCommand} {cs : List AV} (hs : ShCos ν H D t) (h1 : E ≤ D) (h2 : D + (1 + szCos t) ≤ E + n) (h3 : D ≤ i) (h4 : i < D + (1 + szCos t)) (hc : H i = .cells v T sz cs) : withinL (inI E n) anyAV cs = true := by
  obtain ⟨⟨C, e1, e2, e3⟩, e4⟩ := hs
  by_cases e : i = D
  · subst e
    rw [e1] at hc; cases hc
    rw [withinL_all, List.all_eq_true]
    intro a ha
    obtain ⟨k, hk⟩ := List.getElem?_of_mem ha
    have hkl := (List.getElem?_eq_some_iff.1 hk).1
    obtain ⟨x, hx⟩ := get_some (l := t) (i := k / 2) (by omega)
    obtain ⟨h5, h6⟩ := e3 _ x hx
    have := szCos_take hx
    have hx2 : szCo x = 2 + x.2.length := rfl
    rcases Nat.mod_two_eq_zero_or_one k with hm | hm
    · rw [show k / 2 * 2 = k by omega, hk] at h5; cases h5
      exact inI_iff.2 ⟨by omega, by omega⟩
    · rw [show k / 2 * 2 + 1 = k by omega, hk] at h6; cases h6
      exact inI_iff.2 ⟨by omega, by omega⟩
  · obtain ⟨j, x, h5, h6, h7⟩ := szCos_find (t := t) (i := i - (D + 1)) (by omega)
    have := szCos_take h5
    exact (e4 j x h5).within (by omega) (by omega) (by omega) (by omega) hc
theorem o_markCommandS {ν : Nat → Nat} {D : Nat} {t : List PCommand} {k : Int} {H : Heap} {K : AV → Heap → Prop} (hD : 1000000 ≤ D) (hs : ShCos ν H D t) (hsm : smCommandS t) (hk0 : 0 ≤ k) (hk : k ≤ 6000000000000000000)
    (hK : ∀ k' H', (∀ i, i < D ∨ D + (1 + szCos t) ≤ i → H' i = H i) → ShCos ν H' D t → k ≤ k' → k' ≤ k + 3000000000000000000 → K (I64 k') H') : ACall Tryz.prog 60 [.ref D (ν D) 0 t.length, I64 k] H K := by
  have hn := hsm.1
  have hin : inI D (1 + szCos t) D = true := inI_iff.2 (by omega)
  refine ACall.iv (d := D) (n := 1 + szCos t) hD (fun i v T sz cs hi hc => hs.within (by omega) (by omega) (inI_iff.1 hi).1 (inI_iff.1 hi).2 hc) ?_ (R := fun r H' => ∃ k', r = I64 k' ∧ ShCos ν H' D t ∧ k ≤ k' ∧ k' ≤ k + 3000000000000000000) ?_ ?_
  · simp only [withinL, within, hin, Bool.and_self]
  · generalize hHs : sub D (1 + szCos t) H = Hs
    have hs : ShCos ν Hs D t := by rw [← hHs]; exact hs.congr fun i h1 h2 => sub_in h1 h2
    clear hHs
    refine call60 (by simp) ?_
    simp only [Tryz.results60, Tryz.ntmps60, Tryz.f60, Option.getD_some, pl60]
    simp only [go_sem]
    refine ALoop.intro (pl := pl60) (fun q env H => ∃ (i : Nat) (m : Int), env 0 = .ref D (ν D) 0 t.length ∧ env 1 = I64 m ∧ env 5 = I64 i ∧ ShCos ν H D t ∧ i + q = t.length ∧ k ≤ m ∧ m ≤ k + 2199026401280 * i) t.length (by kernel_rfl) ?_ ?_
    · simp only [go_sem]
      exact ⟨0, _, rfl, rfl, hs, by omega, by omega, by omega⟩
    · rintro q env H ⟨i, m, e0, e1, e5, ⟨⟨C, bD, hC, hcs⟩, hin⟩, hq, hm1, hm2⟩
      by_cases hz : (i : Int) < t.length
      · have h0 : (0 : Int) ≤ i := by omega
        obtain ⟨x, hx⟩ := get_some (l := t) (i := i) (by omega)
        have hw : IntKind.wrap .i64 ((i : Int) + 1) = i + 1 := i64_in _ (by omega)
        obtain ⟨c0, c1⟩ := hcs i x hx
        have hne : ∀ {C : List AV}, C.length = t.length * 2 → ¬ C = [] := fun {C} hC e => by rw [e] at hC; simp at hC; omega
        have hxs := hsm.2 x (List.mem_of_getElem? hx)
        have hst := szCos_take hx
        have hx2 : szCo x = 2 + x.2.length := rfl
        obtain ⟨⟨C1, g1, g2, g3⟩, gch⟩ := hin i x hx
        simp only [go_sem, pl60, e0, e1, e5, bD, hz, h0, hw, c0, c1]
        refine ⟨hne hC, ?_⟩
        refine o_markNodeS (d := D + 1 + szCos (t.take i)) (by omega) (C := C1) g1 g2 g3 hxs.1.1 (by omega) (by omega) fun k1 C' g4 g5 g6 g7 => ?_
        have bD' : ∀ b, upd H (D + 1 + szCos (t.take i)) b D = .cells (ν D) 110 2 C := fun b => by rw [upd_ne _ _ (by omega)]; exact bD
        have hf : (D = D + 1 + szCos (t.take i)) = False := eq_false (by omega)
        simp only [go_sem, pl60, e0, e1, e5, bD, bD', hf, if_false, hz, h0, hw, c0, c1]
        refine ⟨hne hC, ?_⟩
        refine o_markChangeS (ν := ν) (D := D + 1 + szCos (t.take i) + 1) (t := x.2) (by omega) (gch.congr fun j h1 h2 => upd_ne _ _ (by omega)) hxs.2 (by omega) (by omega) fun k2 H' g8 g9 g10 g11 => ?_
        have hD' : H' D = .cells (ν D) 110 2 C := by rw [g8 D (.inl (by omega))]; exact bD' _
        simp only [go_sem, pl60, e0, e1, e5, hD', hz, h0, hw]
        refine ⟨q - 1, by omega, i + 1, _, rfl, rfl, ?_, by omega, by omega, by omega⟩
        refine ⟨⟨C, hD', hC, hcs⟩, fun j y hy => ?_⟩
        by_cases e : j = i
        · subst e
          rw [hx] at hy; cases hy
          exact ⟨⟨C', by rw [g8 _ (.inl (by omega)), upd_same], g4, g5⟩, g9⟩
        · have hy2 : szCo y = 2 + y.2.length := rfl
          refine (hin j y hy).congr fun l h1 h2 => ?_
          by_cases hj : j < i
          · have := szCos_lt hy hj
            rw [g8 l (.inl (by omega)), upd_ne _ _ (by omega)]
          · have := szCos_lt hx (show i < j by omega)
            rw [g8 l (.inr (by omega)), upd_ne _ _ (by omega)]
      · simp only [go_sem, e0, e1, e5, bD, hz]
        exact ⟨_, rfl, ⟨⟨C, bD, hC, hcs⟩, hin⟩, hm1, by omega⟩
  · rintro r H' ⟨k', rfl, h1, h2, h3⟩
    refine ⟨_, .keep _ rfl, fun i v T sz cs hi hc => h1.within (by omega) (by omega) (inI_iff.1 hi).1 (inI_iff.1 hi).2 hc, hK _ _ (fun i hi => joi_out hi) (h1.congr fun i h4 h5 => joi_in h4 h5) h2 h3⟩
end Go.Proofs.YteegphdelekdaaaGreat

set_option linter.unusedVariables false
set_option linter.unusedSimpArgs false
namespace Go.Proofs.YteegphdelekdaaaGreat
open Go.Abs Go.IntWalk
set_option maxRecDepth 100000
attribute [local go_sem] eI eU eNs eN cN eChs eCh cCh eCos eCo cCo eP take_map
theorem rCh_get {H : Heap} : ∀ {t : List PChange} {d j : Nat} {x : PChange}, t[j]? = some x → (rCh d H t)[j * 2]? = some (I64 x.1) ∧ (rCh d H t)[j * 2 + 1]? = some (.ref (d + j) (H (d + j)).ver 0 x.2.length)
  | [], d, j, x, h => by simp at h
  | y :: t, d, 0, x, h => by simp at h; subst h; exact ⟨rfl, rfl⟩
  | y :: t, d, j + 1, x, h => by
    simp only [List.getElem?_cons_succ] at h
    have := rCh_get (H := H) (t := t) (d := d + 1) h
    rw [show (j + 1) * 2 = j * 2 + 1 + 1 by omega]
    simp only [rCh, List.getElem?_cons_succ, show d + (j + 1) = d + 1 + j by omega]
    exact this
theorem atChs_get {H : Heap} : ∀ {t : List PChange} {d j : Nat} {x : PChange}, atChs d H t → t[j]? = some x → atNs (d + j) H x.2
  | [], d, j, x, _, h => by simp at h
  | y :: t, d, 0, x, ha, h => by simp at h; subst h; exact ha.1
  | y :: t, d, j + 1, x, ha, h => by
    simp only [List.getElem?_cons_succ] at h
    rw [show d + (j + 1) = d + 1 + j by omega]
    exact atChs_get (t := t) ha.2 h
theorem rCo_get {H : Heap} : ∀ {t : List PCommand} {d j : Nat} {x : PCommand}, t[j]? = some x →
    (rCo d H t)[j * 2]? = some (.ref (d + szCos (t.take j)) (H (d + szCos (t.take j))).ver 0 x.1.length) ∧ (rCo d H t)[j * 2 + 1]? = some (.ref (d + szCos (t.take j) + 1) (H (d + szCos (t.take j) + 1)).ver 0 x.2.length)
  | [], d, j, x, h => by simp at h
  | y :: t, d, 0, x, h => by simp at h; subst h; exact ⟨rfl, rfl⟩
  | y :: t, d, j + 1, x, h => by
    simp only [List.getElem?_cons_succ] at h
    have := rCo_get (H := H) (t := t) (d := d + szCo y) h
    rw [show (j + 1) * 2 = j * 2 + 1 + 1 by omega]
    simp only [rCo, cellsCo', List.cons_append, List.nil_append, List.getElem?_cons_succ, List.take_succ_cons, szCos, show d + (szCo y + szCos (t.take j)) = d + szCo y + szCos (t.take j) by omega]
    exact this
theorem atCos_get {H : Heap} : ∀ {t : List PCommand} {d j : Nat} {x : PCommand}, atCos d H t → t[j]? = some x → atCo (d + szCos (t.take j)) H x
  | [], d, j, x, _, h => by simp at h
  | y :: t, d, 0, x, ha, h => by simp at h; subst h; simpa [szCos] using ha.1
  | y :: t, d, j + 1, x, ha, h => by
    simp only [List.getElem?_cons_succ] at h
    have := atCos_get (t := t) ha.2 h
    simp only [List.take_succ_cons, szCos, ← Nat.add_assoc]
    exact this
abbrev verOf (H : Heap) : Nat → Nat := fun i => (H i).ver
theorem shN_of {H : Heap} {d : Nat} {t : List PNode} (h : atNs d H t) : ShN (verOf H) H d t.length := by
  obtain ⟨v, h⟩ := h
  exact ⟨_, by show _ = Blk.cells (H d).ver _ _ _; rw [h]; rfl, len2 (fun _ => rfl) t, cl_nodes t⟩
theorem shCh_of {H : Heap} {d v : Nat} {t : List PChange} (h : H d = .cells v 143 2 (rCh (d + 1) H t)) (ha : atChs (d + 1) H t) : ShCh (verOf H) H d t :=
  ⟨⟨_, by show _ = Blk.cells (H d).ver _ _ _; rw [h]; rfl, rCh_len, fun j x hx => ⟨_, (rCh_get hx).1, (rCh_get hx).2⟩⟩, fun j x hx => shN_of (atChs_get ha hx)⟩
theorem shCo_of {H : Heap} {d : Nat} {x : PCommand} (h : atCo d H x) : ShCo (verOf H) H d x := by
  obtain ⟨h1, ⟨v, h2⟩, h3⟩ := h
  exact ⟨shN_of h1, shCh_of h2 h3⟩
theorem shCos_of {H : Heap} {d v : Nat} {t : List PCommand} (h : H d = .cells v 110 2 (rCo (d + 1) H t)) (ha : atCos (d + 1) H t) : ShCos (verOf H) H d t :=
  ⟨⟨_, by show _ = Blk.cells (H d).ver _ _ _; rw [h]; rfl, rCo_len, fun j x hx => rCo_get hx⟩, fun j x hx => shCo_of (atCos_get ha hx)⟩
/-- Every cell of a copied program is overwritten; nothing else is. -/
theorem o_markProgram {d : Nat} {p : PProg} {k : Int} {H : Heap} {K : AV → Heap → Prop} (hd : 1000000 ≤ d) (ha : atP d H p) (hsm : smProgram p) (hk0 : 0 ≤ k) (hk : k ≤ 1000000)
    (hK : ∀ k' H', (∀ i, i < d ∨ d + szP p ≤ i → H' i = H i) → k ≤ k' → k' ≤ k + 4000000000000000000 → K (I64 k') H') : ACall Tryz.prog 23 [.agg (oP d H p), I64 k] H K := by
  have hsz : szP p = 2 + szCos p.2.2.2 := rfl
  obtain ⟨hs1, hs2⟩ : ShN (verOf H) H d p.2.2.1.length ∧ ShCos (verOf H) H (d + 1) p.2.2.2 := by
    obtain ⟨h1, ⟨v, h2⟩, h3⟩ := ha
    exact ⟨shN_of h1, shCos_of h2 h3⟩
  have hin : inI d (szP p) d = true := inI_iff.2 (by omega)
  have hin1 : inI d (szP p) (d + 1) = true := inI_iff.2 (by omega)
  have hw : ∀ (H' : Heap), ShN (verOf H) H' d p.2.2.1.length → ShCos (verOf H) H' (d + 1) p.2.2.2 → ∀ i v T sz cs, inI d (szP p) i = true → H' i = .cells v T sz cs → withinL (inI d (szP p)) anyAV cs = true := by
    intro H' h1 h2 i v T sz cs hi hc
    have := inI_iff.1 hi
    by_cases e : i = d
    · subst e; exact h1.within hc
    · exact h2.within (by omega) (by omega) (by omega) (by omega) hc
  refine ACall.iv (d := d) (n := szP p) hd (hw H hs1 hs2) ?_ (R := fun r H' => ∃ k', r = I64 k' ∧ ShN (verOf H) H' d p.2.2.1.length ∧ ShCos (verOf H) H' (d + 1) p.2.2.2 ∧ k ≤ k' ∧ k' ≤ k + 4000000000000000000) ?_ ?_
  · simp only [withinL, within, oP, hin, hin1, Bool.and_self]
  · generalize hν : verOf H = ν at *
    have e0 : oP d H p = [I64 p.1, I64 p.2.1, .ref d (ν d) 0 p.2.2.1.length, .ref (d + 1) (ν (d + 1)) 0 p.2.2.2.length] := by rw [← hν]; rfl
    rw [e0]
    generalize hHs : sub d (szP p) H = Hs
    have hs1 : ShN ν Hs d p.2.2.1.length := by rw [← hHs]; exact hs1.congr (sub_in (by omega) (by omega))
    have hs2 : ShCos ν Hs (d + 1) p.2.2.2 := by rw [← hHs]; exact hs2.congr fun i h1 h2 => sub_in (by omega) (by omega)
    clear hHs
    have hd1 : 1000000 ≤ d + 1 := by omega
    refine call23 (by simp) ?_
    simp only [Tryz.results23, Tryz.ntmps23, Tryz.f23, Option.getD_some, pl23]
    simp only [go_sem]
    obtain ⟨C, g1, g2, g3⟩ := hs1
    refine o_markNodeS (d := d) hd (v := ν d) (C := C) (by rw [upd_ne _ _ (by omega)]; exact g1) g2 g3 hsm.1.1 hk0 (by omega) fun k1 C' g4 g5 g6 g7 => ?_
    simp only [go_sem, eq_lo, eq_hi, hd, hd1, Nat.reduceLT, if_false]
    refine o_markCommandS (ν := ν) (D := d + 1) (t := p.2.2.2) hd1 (hs2.congr fun i h1 h2 => by rw [upd_ne _ _ (by omega), upd_ne _ _ (by omega)]) hsm.2 (by omega) (by omega) fun k2 H' g8 g9 g10 g11 => ?_
    simp only [go_sem]
    exact ⟨k2, rfl, ⟨C', by rw [g8 d (.inl (by omega)), upd_same], g4, g5⟩, g9, by omega, by omega⟩
  · rintro r H' ⟨k', rfl, h1, h2, h3, h4⟩
    refine ⟨_, .keep _ rfl, hw H' h1 h2, hK _ _ (fun i hi => joi_out hi) h3 h4⟩
end Go.Proofs.YteegphdelekdaaaGreat
