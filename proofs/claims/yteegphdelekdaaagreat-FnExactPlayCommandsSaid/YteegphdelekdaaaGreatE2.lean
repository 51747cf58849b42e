/- Texts of ours, joined: YteegphdelekdaaaGreatH7 YteegphdelekdaaaGreatH8 YteegphdelekdaaaGreatH9 YteegphdelekdaaaGreatH10 YteegphdelekdaaaGreatH11 YteegphdelekdaaaGreatH12. -/
import Derived.Test.YteegphdelekdaaaGreatE1
set_option linter.unusedVariables false
set_option linter.unusedSimpArgs false
namespace Go.Proofs.YteegphdelekdaaaGreat
open Go.Abs Go.IntWalk
/-! What a term is, and its value. -/
def manyOf (op : Int) : Nat := if op = 1 ∨ op = 2 ∨ op = 20 then 0 else if op = 13 ∨ op = 19 then 1 else if (3 ≤ op ∧ op ≤ 12) ∨ (14 ≤ op ∧ op ≤ 16) ∨ op = 17 ∨ op = 18 then 2 else 0
def partOf (op : Int) : Int := if op = 13 then 1 else if op = 19 then 2 else if (3 ≤ op ∧ op ≤ 12) ∨ (14 ≤ op ∧ op ≤ 16) then 1 else if op = 17 ∨ op = 18 then 2 else 0
def ownOf (op : Int) : Int := if op = 1 ∨ op = 2 then 1 else if op = 20 then 2 else if op = 13 then 1 else if op = 19 then 2 else if 3 ≤ op ∧ op ≤ 12 then 1 else if 14 ≤ op ∧ op ≤ 16 then 2 else if op = 17 ∨ op = 18 then 2 else 0
def leafOk (wide vars : Int) (x : PNode) : Prop := if x.1 = 1 then gw wide x.2 else if x.1 = 2 then (x.2 : Int) < vars else if x.1 = 20 then x.2 ≤ 1 else x.2 = 0
instance (wide vars : Int) (x : PNode) : Decidable (leafOk wide vars x) := by unfold leafOk; infer_instance
/-- One node: the kinds on the stack, the top first. -/
def tstep (wide vars : Int) (st : List Int) (x : PNode) : Option (List Int) :=
  if ownOf x.1 ≠ 0 ∧ leafOk wide vars x ∧ manyOf x.1 ≤ st.length ∧ ∀ k ∈ st.take (manyOf x.1), k = partOf x.1 then some (ownOf x.1 :: st.drop (manyOf x.1)) else none
def trun (wide vars : Int) : List PNode → List Int → Option (List Int)
  | [], st => some st
  | x :: t, st => match tstep wide vars st x with | some st => trun wide vars t st | none => none
/-- The kind of a good term, else 0. -/
def kindT (wide vars : Int) (t : List PNode) : Int :=
  if wideOk wide ∧ (1 ≤ vars ∧ vars ≤ 4) ∧ (1 ≤ t.length ∧ t.length ≤ 48) then (match trun wide vars t [] with | some [k] => k | _ => 0) else 0
theorem trun_app (wide vars : Int) : ∀ (t u : List PNode) (st : List Int), trun wide vars (t ++ u) st = (trun wide vars t st).bind (trun wide vars u)
  | [], u, st => rfl
  | x :: t, u, st => by
    simp only [List.cons_append, trun]
    cases tstep wide vars st x with
    | none => rfl
    | some s => exact trun_app wide vars t u s
theorem own_pos {op : Int} (h : ownOf op ≠ 0) : ownOf op = 1 ∨ ownOf op = 2 := by
  unfold ownOf at *
  repeat' split
  all_goals first | (left; rfl) | (right; rfl) | skip
  all_goals simp_all
theorem tstep_some {wide vars : Int} {st st' : List Int} {x : PNode} (h : tstep wide vars st x = some st') : ownOf x.1 ≠ 0 ∧ leafOk wide vars x ∧ manyOf x.1 ≤ st.length ∧ (∀ k ∈ st.take (manyOf x.1), k = partOf x.1) ∧ st' = ownOf x.1 :: st.drop (manyOf x.1) := by
  unfold tstep at h
  split at h
  · rename_i hc
    injection h with h
    exact ⟨hc.1, hc.2.1, hc.2.2.1, hc.2.2.2, h.symm⟩
  · cases h
/-- One node: the values on the stack, the top first. -/
def estep (w : Nat) (s : List Nat) (st : List Nat) (x : PNode) : List Nat :=
  if x.1 = 1 ∨ x.1 = 20 then x.2 :: st else if x.1 = 2 then (s[x.2]?).getD 0 :: st
  else if x.1 = 13 then (match st with | a :: r => (2 ^ w - 1 - a) :: r | [] => []) else if x.1 = 19 then (match st with | a :: r => (1 - a) :: r | [] => [])
  else match st with | b :: a :: r => doOp w x.1 a b :: r | _ => []
def erun (w : Nat) (s : List Nat) : List PNode → List Nat → List Nat
  | [], st => st
  | x :: t, st => erun w s t (estep w s st x)
theorem erun_app (w : Nat) (s : List Nat) : ∀ (t u : List PNode) (st : List Nat), erun w s (t ++ u) st = erun w s u (erun w s t st)
  | [], u, st => rfl
  | x :: t, u, st => by simp only [List.cons_append, erun]; exact erun_app w s t u _
def evalT (w : Nat) (t : List PNode) (s : List Nat) : Nat := (erun w s t []).headD 0
/-- A value fits its kind. -/
def fitsK (w : Nat) (k : Int) (v : Nat) : Prop := (k = 1 ∧ v < 2 ^ w) ∨ (k = 2 ∧ v ≤ 1)
theorem fitsK_lt {w : Nat} {k : Int} {v : Nat} (h1 : 1 ≤ w) (h : fitsK w k v) : v < 2 ^ w := by
  have : 2 ^ 1 ≤ 2 ^ w := Nat.pow_le_pow_right (by omega) h1
  rcases h with ⟨_, h⟩ | ⟨_, h⟩ <;> omega
def fitsL (w : Nat) : List Int → List Nat → Prop
  | [], [] => True
  | k :: ks, v :: vs => fitsK w k v ∧ fitsL w ks vs
  | _, _ => False
theorem fitsL_len {w : Nat} : ∀ {ks : List Int} {vs : List Nat}, fitsL w ks vs → ks.length = vs.length
  | [], [], _ => rfl
  | k :: ks, v :: vs, h => by simp [fitsL_len h.2]
  | [], _ :: _, h => h.elim
  | _ :: _, [], h => h.elim
theorem and_le1 {a b : Nat} (ha : a ≤ 1) (hb : b ≤ 1) : a &&& b ≤ 1 := Nat.le_trans Nat.and_le_left ha
theorem or_le1 {a b : Nat} (ha : a ≤ 1) (hb : b ≤ 1) : a ||| b ≤ 1 := by
  have := or_lt (k := 1) (a := a) (b := b) (by omega) (by omega)
  omega
/-- An op with its stack. -/
inductive OpCase (wide vars : Int) (st : List Int) (x : PNode) : List Int → Prop
  | leaf (h : x.1 = 1 ∨ x.1 = 2 ∨ x.1 = 20) : OpCase wide vars st x (ownOf x.1 :: st)
  | one (r : List Int) (hs : st = partOf x.1 :: r) (h : x.1 = 13 ∨ x.1 = 19) : OpCase wide vars st x (ownOf x.1 :: r)
  | two (r : List Int) (hs : st = partOf x.1 :: partOf x.1 :: r) (h : (3 ≤ x.1 ∧ x.1 ≤ 12) ∨ (14 ≤ x.1 ∧ x.1 ≤ 18)) : OpCase wide vars st x (ownOf x.1 :: r)
theorem op_case {wide vars : Int} {st st' : List Int} {x : PNode} (h : tstep wide vars st x = some st') : leafOk wide vars x ∧ OpCase wide vars st x st' := by
  obtain ⟨h1, h2, h3, h4, rfl⟩ := tstep_some h
  refine ⟨h2, ?_⟩
  by_cases c0 : x.1 = 1 ∨ x.1 = 2 ∨ x.1 = 20
  · have e : manyOf x.1 = 0 := by unfold manyOf; rw [if_pos c0]
    rw [e]; exact .leaf c0
  · by_cases c1 : x.1 = 13 ∨ x.1 = 19
    · have e : manyOf x.1 = 1 := by unfold manyOf; rw [if_neg c0, if_pos c1]
      rw [e] at h3 h4 ⊢
      match st, h3, h4 with
      | a :: r, _, h4 =>
        have := h4 a (by simp)
        exact .one r (by rw [this]) c1
    · by_cases c2 : (3 ≤ x.1 ∧ x.1 ≤ 12) ∨ (14 ≤ x.1 ∧ x.1 ≤ 16) ∨ x.1 = 17 ∨ x.1 = 18
      · have e : manyOf x.1 = 2 := by unfold manyOf; rw [if_neg c0, if_neg c1, if_pos c2]
        rw [e] at h3 h4 ⊢
        match st, h3, h4 with
        | [_], h3, _ => simp at h3
        | a :: b :: r, _, h4 =>
          have ha := h4 a (by simp)
          have hb := h4 b (by simp)
          exact .two r (by rw [ha, hb]) (by omega)
      · exfalso
        apply h1
        unfold ownOf
        repeat (rw [if_neg (by omega)])
theorem step_fits {w : Nat} {vars : Nat} {s : List Nat} (h1 : 1 ≤ w) (hs : s.length = vars) (hw : ∀ v ∈ s, v < 2 ^ w) {ks ks' : List Int} {vs : List Nat} {x : PNode} (hf : fitsL w ks vs) (h : tstep (w : Int) (vars : Int) ks x = some ks') : fitsL w ks' (estep w s vs x) := by
  obtain ⟨hl, hc⟩ := op_case h
  cases hc with
  | leaf hc =>
    rcases hc with e | e | e
    · simp only [estep, e, true_or, if_true]
      refine ⟨.inl ⟨by simp [ownOf, e], ?_⟩, hf⟩
      unfold leafOk at hl
      rw [if_pos e] at hl
      have := hl.2
      rwa [Int.toNat_natCast] at this
    · have hl2 : x.2 < vars := by
        unfold leafOk at hl
        rw [if_neg (by omega), if_pos e] at hl
        omega
      unfold estep
      rw [if_neg (by omega), if_pos e]
      refine ⟨.inl ⟨by simp [ownOf, e], ?_⟩, hf⟩
      rw [List.getElem?_eq_getElem (by omega), Option.getD_some]
      exact hw _ (List.getElem_mem _)
    · simp only [estep, e, or_true, if_true]
      refine ⟨.inr ⟨by simp [ownOf, e], ?_⟩, hf⟩
      unfold leafOk at hl
      rwa [if_neg (by omega), if_neg (by omega), if_pos e] at hl
  | one r hst hc =>
    subst hst
    match vs, hf with
    | a :: vs, hf =>
      rcases hc with e | e
      · unfold estep
        rw [if_neg (by omega), if_neg (by omega), if_pos e]
        have hp : 0 < 2 ^ w := Nat.pow_pos (by omega)
        exact ⟨.inl ⟨by simp [ownOf, e], by omega⟩, hf.2⟩
      · unfold estep
        rw [if_neg (by omega), if_neg (by omega), if_neg (by omega), if_pos e]
        exact ⟨.inr ⟨by simp [ownOf, e], by omega⟩, hf.2⟩
  | two r hst hc =>
    subst hst
    match vs, hf with
    | b :: a :: vs, hf =>
      have hb := fitsK_lt h1 hf.1
      have ha := fitsK_lt h1 hf.2.1
      unfold estep
      rw [if_neg (by omega), if_neg (by omega), if_neg (by omega), if_neg (by omega)]
      refine ⟨?_, hf.2.2⟩
      by_cases c1 : 3 ≤ x.1 ∧ x.1 ≤ 12
      · refine .inl ⟨?_, doOp_lt h1 ha hb⟩
        unfold ownOf
        rw [if_neg (by omega), if_neg (by omega)]
        by_cases e13 : x.1 = 13
        · omega
        · rw [if_neg e13, if_neg (by omega), if_pos c1]
      · refine .inr ⟨?_, ?_⟩
        · unfold ownOf
          rw [if_neg (by omega), if_neg (by omega), if_neg (by omega), if_neg (by omega), if_neg c1]
          by_cases c2 : 14 ≤ x.1 ∧ x.1 ≤ 16
          · rw [if_pos c2]
          · rw [if_neg c2, if_pos (by omega)]
        · have le1 : ∀ (p : Prop) [Decidable p], (if p then 1 else 0) ≤ 1 := fun p _ => by split <;> omega
          rcases (show x.1 = 14 ∨ x.1 = 15 ∨ x.1 = 16 ∨ x.1 = 17 ∨ x.1 = 18 by omega) with e | e | e | e | e
          · simp [doOp, e]; exact le1 _
          · simp [doOp, e]; exact le1 _
          · simp [doOp, e]; exact le1 _
          · have hp : partOf x.1 = 2 := by simp [partOf, e]
            have h5 := hf.1
            have h6 := hf.2.1
            rw [hp] at h5 h6
            simp [doOp, e]
            exact and_le1 (by rcases h6 with ⟨h, _⟩ | ⟨_, h⟩ <;> omega) (by rcases h5 with ⟨h, _⟩ | ⟨_, h⟩ <;> omega)
          · have hp : partOf x.1 = 2 := by simp [partOf, e]
            have h5 := hf.1
            have h6 := hf.2.1
            rw [hp] at h5 h6
            simp [doOp, e]
            exact or_le1 (by rcases h6 with ⟨h, _⟩ | ⟨_, h⟩ <;> omega) (by rcases h5 with ⟨h, _⟩ | ⟨_, h⟩ <;> omega)
/-- A good term's run, node by node: the kinds and the values. -/
theorem run_fits {w vars : Nat} {s : List Nat} (h1 : 1 ≤ w) (hs : s.length = vars) (hw : ∀ v ∈ s, v < 2 ^ w) (t : List PNode) : ∀ (ks ks' : List Int) (vs : List Nat), fitsL w ks vs → trun (w : Int) (vars : Int) t ks = some ks' → fitsL w ks' (erun w s t vs) := by
  induction t with
  | nil => intro ks ks' vs hf h; simp only [trun, Option.some.injEq] at h; subst h; exact hf
  | cons x t ih =>
    intro ks ks' vs hf h
    simp only [trun] at h
    split at h
    · rename_i st he
      exact ih _ _ _ (step_fits h1 hs hw hf he) h
    · cases h
end Go.Proofs.YteegphdelekdaaaGreat

set_option linter.unusedVariables false
set_option linter.unusedSimpArgs false
namespace Go.Proofs.YteegphdelekdaaaGreat
open Go.Abs Go.IntWalk
set_option maxRecDepth 100000
attribute [local go_sem] eI eU eNs eN cN eChs eCh cCh eCos eCo cCo eP take_map
theorem trun_pos {wide vars : Int} : ∀ {t : List PNode} {st st' : List Int}, (∀ k ∈ st, k ≠ 0) → trun wide vars t st = some st' → ∀ k ∈ st', k ≠ 0
  | [], st, st', h, he => by simp only [trun, Option.some.injEq] at he; subst he; exact h
  | x :: t, st, st', h, he => by
    simp only [trun] at he
    split at he
    · rename_i s hs
      refine trun_pos ?_ he
      obtain ⟨h1, h2, h3, h4, rfl⟩ := tstep_some hs
      intro k hk
      rcases List.mem_cons.1 hk with rfl | hk
      · exact h1
      · exact h k (List.mem_of_mem_drop hk)
    · cases he
theorem ops_a {op : Int} (h : op = 1 ∨ op = 2) : manyOf op = 0 ∧ ownOf op = 1 := by rcases h with rfl | rfl <;> exact ⟨rfl, rfl⟩
theorem ops_b {op : Int} (h : 3 ≤ op ∧ op ≤ 12) : manyOf op = 2 ∧ partOf op = 1 ∧ ownOf op = 1 := by
  refine ⟨?_, ?_, ?_⟩
  · unfold manyOf; rw [if_neg (by omega), if_neg (by omega), if_pos (by omega)]
  · unfold partOf; rw [if_neg (by omega), if_neg (by omega), if_pos (by omega)]
  · unfold ownOf; rw [if_neg (by omega), if_neg (by omega), if_neg (by omega), if_neg (by omega), if_pos (by omega)]
theorem ops_c {op : Int} (h : 14 ≤ op ∧ op ≤ 16) : manyOf op = 2 ∧ partOf op = 1 ∧ ownOf op = 2 := by
  refine ⟨?_, ?_, ?_⟩
  · unfold manyOf; rw [if_neg (by omega), if_neg (by omega), if_pos (by omega)]
  · unfold partOf; rw [if_neg (by omega), if_neg (by omega), if_pos (by omega)]
  · unfold ownOf; rw [if_neg (by omega), if_neg (by omega), if_neg (by omega), if_neg (by omega), if_neg (by omega), if_pos (by omega)]
theorem ops_d {op : Int} (h : ¬ (1 ≤ op ∧ op ≤ 20)) : manyOf op = 0 ∧ ownOf op = 0 := by
  refine ⟨?_, ?_⟩
  · unfold manyOf; rw [if_neg (by omega), if_neg (by omega), if_neg (by omega)]
  · unfold ownOf; rw [if_neg (by omega), if_neg (by omega), if_neg (by omega), if_neg (by omega), if_neg (by omega), if_neg (by omega), if_neg (by omega)]
theorem c_opsI {op : Int} {H : Heap} {K : AV → Heap → Prop} (hK : ∀ p, (manyOf op ≠ 0 → p = partOf op) → K (.tup [I64 (manyOf op), I64 p, I64 (ownOf op)]) H) : ACall Tryz.prog 179 [I64 op] H K := by
  refine ACall.pure (R := fun r _ => ∃ p, (manyOf op ≠ 0 → p = partOf op) ∧ r = .tup [I64 (manyOf op), I64 p, I64 (ownOf op)]) rfl ?_ fun r H' h => by obtain ⟨p, hp, rfl⟩ := h; exact ⟨_, .cl rfl, rfl, hK p hp⟩
  refine call179 (by simp) ?_
  simp only [Tryz.results179, Tryz.ntmps179, Tryz.f179, Option.getD_some, pl179]
  by_cases q1 : op = 1
  · subst q1
    simp only [go_sem]
    exact ⟨0, fun h => by first | rfl | exact absurd rfl h, rfl⟩
  by_cases q2 : op = 2
  · subst q2
    simp only [go_sem]
    exact ⟨0, fun h => by first | rfl | exact absurd rfl h, rfl⟩
  by_cases q20 : op = 20
  · subst q20
    simp only [go_sem]
    exact ⟨0, fun h => by first | rfl | exact absurd rfl h, rfl⟩
  by_cases q13 : op = 13
  · subst q13
    simp only [go_sem]
    exact ⟨1, fun h => by first | rfl | exact absurd rfl h, rfl⟩
  by_cases q19 : op = 19
  · subst q19
    simp only [go_sem]
    exact ⟨2, fun h => by first | rfl | exact absurd rfl h, rfl⟩
  by_cases q17 : op = 17
  · subst q17
    simp only [go_sem]
    exact ⟨2, fun h => by first | rfl | exact absurd rfl h, rfl⟩
  by_cases q18 : op = 18
  · subst q18
    simp only [go_sem]
    exact ⟨2, fun h => by first | rfl | exact absurd rfl h, rfl⟩
  by_cases r : 3 ≤ op
  · by_cases r2 : op ≤ 12
    · obtain ⟨e1, e2, e3⟩ := ops_b ⟨r, r2⟩
      simp only [go_sem, q1, q2, q20, q13, q19, q17, q18, r, r2]
      exact ⟨1, fun _ => e2.symm, by rw [e1, e3]; rfl⟩
    · by_cases r3 : 14 ≤ op
      · by_cases r4 : op ≤ 16
        · obtain ⟨e1, e2, e3⟩ := ops_c ⟨r3, r4⟩
          simp only [go_sem, q1, q2, q20, q13, q19, q17, q18, r, r2, r3, r4]
          exact ⟨1, fun _ => e2.symm, by rw [e1, e3]; rfl⟩
        · obtain ⟨e1, e3⟩ := ops_d (op := op) (by omega)
          simp only [go_sem, q1, q2, q20, q13, q19, q17, q18, r, r2, r3, r4]
          exact ⟨0, fun h => absurd e1 h, by rw [e1, e3]; rfl⟩
      · omega
  · have r3 : ¬ 14 ≤ op := by omega
    obtain ⟨e1, e3⟩ := ops_d (op := op) (by omega)
    simp only [go_sem, q1, q2, q20, q13, q19, q17, q18, r, r3]
    exact ⟨0, fun h => absurd e1 h, by rw [e1, e3]; rfl⟩
theorem c_opsS {op : Int} {H : Heap} {K : AV → Heap → Prop} (hK : ∀ p, (manyOf op ≠ 0 → p = partOf op) → K (.tup [I64 (manyOf op), I64 p, I64 (ownOf op)]) H) : ACall Tryz.prog 148 [I64 op] H K := by
  refine ACall.pure (R := fun r _ => ∃ p, (manyOf op ≠ 0 → p = partOf op) ∧ r = .tup [I64 (manyOf op), I64 p, I64 (ownOf op)]) rfl ?_ fun r H' h => by obtain ⟨p, hp, rfl⟩ := h; exact ⟨_, .cl rfl, rfl, hK p hp⟩
  refine call148 (by simp) ?_
  simp only [Tryz.results148, Tryz.ntmps148, Tryz.f148, Option.getD_some, pl148]
  by_cases q1 : op = 1
  · subst q1
    simp only [go_sem]
    exact ⟨1, fun h => by first | rfl | exact absurd rfl h, rfl⟩
  by_cases q2 : op = 2
  · subst q2
    simp only [go_sem]
    exact ⟨1, fun h => by first | rfl | exact absurd rfl h, rfl⟩
  by_cases q20 : op = 20
  · subst q20
    simp only [go_sem]
    exact ⟨2, fun h => by first | rfl | exact absurd rfl h, rfl⟩
  by_cases q13 : op = 13
  · subst q13
    simp only [go_sem]
    exact ⟨1, fun h => by first | rfl | exact absurd rfl h, rfl⟩
  by_cases q19 : op = 19
  · subst q19
    simp only [go_sem]
    exact ⟨2, fun h => by first | rfl | exact absurd rfl h, rfl⟩
  simp only [go_sem, q1, q2, q20, q13, q19]
  refine c_in ?_
  by_cases r : 3 ≤ op ∧ op ≤ 12
  · obtain ⟨e1, e2, e3⟩ := ops_b r
    simp only [go_sem, r]
    exact ⟨1, fun _ => e2.symm, by rw [e1, e3]; rfl⟩
  · simp only [go_sem, r]
    refine c_in ?_
    by_cases r2 : 14 ≤ op ∧ op ≤ 16
    · obtain ⟨e1, e2, e3⟩ := ops_c r2
      simp only [go_sem, r2]
      exact ⟨1, fun _ => e2.symm, by rw [e1, e3]; rfl⟩
    · by_cases q17 : op = 17
      · subst q17
        simp only [go_sem, r2]
        exact ⟨2, fun h => rfl, rfl⟩
      · by_cases q18 : op = 18
        · subst q18
          simp only [go_sem, r2]
          exact ⟨2, fun h => rfl, rfl⟩
        · obtain ⟨e1, e3⟩ := ops_d (op := op) (by omega)
          simp only [go_sem, r2, q17, q18]
          exact ⟨0, fun h => absurd e1 h, by rw [e1, e3]; rfl⟩
theorem c_leafI {wide vars : Int} {x : PNode} (hv : 1 ≤ vars ∧ vars ≤ 4) (hx : x.2 < 18446744073709551616) {H : Heap} {K : AV → Heap → Prop} (hK : K (.bool (decide (leafOk wide vars x))) H) : ACall Tryz.prog 180 [I64 wide, I64 vars, eN x] H K := by
  obtain ⟨op, n⟩ := x
  simp only at hx
  refine pureC rfl rfl ?_ hK
  refine call180 (by simp) ?_
  simp only [Tryz.results180, Tryz.ntmps180, Tryz.f180, Option.getD_some, pl180]
  have hw : IntKind.wrap .u64 vars = vars := u64_in _ (by omega)
  by_cases q1 : op = 1
  · subst q1
    simp only [go_sem]
    refine c_gwI hx ?_
    simp only [go_sem]
    exact bE (by simp [leafOk])
  · by_cases q2 : op = 2
    · subst q2
      simp only [go_sem, hw]
      exact bE (by simp [leafOk])
    · by_cases q3 : op = 20
      · subst q3
        simp only [go_sem]
        exact bE (by simp [leafOk]; omega)
      · simp only [go_sem, q1, q2, q3]
        exact bE (by simp [leafOk, q1, q2, q3])
theorem c_leafS {wide vars : Int} {x : PNode} (hv : 1 ≤ vars ∧ vars ≤ 4) (hx : x.2 < 18446744073709551616) {H : Heap} {K : AV → Heap → Prop} (hK : K (.bool (decide (leafOk wide vars x))) H) : ACall Tryz.prog 149 [I64 wide, I64 vars, eN x] H K := by
  obtain ⟨op, n⟩ := x
  simp only at hx
  refine pureC rfl rfl ?_ hK
  refine call149 (by simp) ?_
  simp only [Tryz.results149, Tryz.ntmps149, Tryz.f149, Option.getD_some, pl149]
  have hw : IntKind.wrap .u64 vars = vars := u64_in _ (by omega)
  by_cases q1 : op = 1
  · subst q1
    simp only [go_sem]
    refine c_gwS hx ?_
    simp only [go_sem]
    exact bE (by simp [leafOk])
  · by_cases q2 : op = 2
    · subst q2
      simp only [go_sem, hw]
      exact bE (by simp [leafOk])
    · by_cases q3 : op = 20
      · subst q3
        simp only [go_sem]
        exact bE (by simp [leafOk]; omega)
      · simp only [go_sem, q1, q2, q3]
        exact bE (by simp [leafOk, q1, q2, q3])
theorem c_varsI {n : Int} {H : Heap} {K : AV → Heap → Prop} (hK : K (.bool (decide (1 ≤ n ∧ n ≤ 4))) H) : ACall Tryz.prog 137 [I64 n] H K := by
  refine pureC rfl rfl ?_ hK
  refine call137 (by simp) ?_
  simp only [Tryz.results137, Tryz.ntmps137, Tryz.f137, Option.getD_some, pl137]
  by_cases h : 1 ≤ n
  · simp only [go_sem, h, true_and]
  · simp only [go_sem, h, false_and]
theorem c_neq {x n : Int} {id v T : Nat} {H : Heap} {K : AV → Heap → Prop} (hH : H id = .cells v T 1 [I64 n]) (hK : K (.bool (!decide (x = n))) H) : ACall Tryz.prog 181 [I64 x, .ptr id v 0] H K := by
  refine ACall.with1 (xs := [I64 x]) (R := fun r H' => r = .bool (!decide (x = n)) ∧ H' 1000000 = .cells v T 1 [I64 n]) (.ptr 1000000 v 0) rfl hH rfl rfl ?_ ?_
  · refine call181 (by simp) ?_
    simp only [Tryz.results181, Tryz.ntmps181, Tryz.f181, Option.getD_some, pl181]
    simp only [go_sem]
  · rintro r H' ⟨rfl, h⟩
    exact ⟨h, _, .cl rfl, rfl, hK⟩
theorem c_idxN {l : List Int} {n : Int} {id v T : Nat} {H : Heap} {K : AV → Heap → Prop} (hl : l.length ≤ 1000000000) (hH : H id = .cells v T 1 [I64 n]) (hK : ∀ r, (0 ≤ r ↔ ¬ ∀ x ∈ l, x = n) → K (I64 r) H) : ACall Tryz.prog 120 [eI l, .fn 181 [.ptr id v 0]] H K := by
  refine ACall.with1 (xs := [eI l]) (R := fun r H' => H' 1000000 = .cells v T 1 [I64 n] ∧ ∃ q, r = I64 q ∧ (0 ≤ q ↔ ¬ ∀ x ∈ l, x = n)) (.fn 181 [.ptr 1000000 v 0]) rfl hH rfl rfl ?_ ?_
  · refine call120 (by simp) ?_
    simp only [Tryz.results120, Tryz.ntmps120, Tryz.f120, Option.getD_some, pl120]
    simp only [go_sem]
    refine ALoop.intro (pl := pl120) (fun k env H => ∃ i : Nat, env 0 = eI l ∧ env 1 = .fn 181 [.ptr 1000000 v 0] ∧ env 7 = I64 l.length ∧ env 8 = I64 i ∧ H 1000000 = .cells v T 1 [I64 n] ∧ i + k = l.length ∧ ∀ x ∈ l.take i, x = n) l.length (by kernel_rfl) ?_ ?_
    · simp only [go_sem]
      exact ⟨0, by simp⟩
    · rintro k env H ⟨i, e0, e1, e2, e3, b1, hk, ht⟩
      by_cases hz : (i : Int) < l.length
      · obtain ⟨x, hx⟩ := get_some (l := l) (i := i) (by omega)
        have hw : IntKind.wrap .i64 ((i : Int) + 1) = i + 1 := i64_in _ (by omega)
        have h0 : (0 : Int) ≤ i := by omega
        simp only [go_sem, e0, e1, e2, e3, hz, hx, h0]
        refine c_neq b1 ?_
        by_cases hp : x = n
        · simp only [go_sem, e0, e1, e2, e3, hp, hw]
          refine ⟨k - 1, by omega, i + 1, rfl, b1, by omega, ?_⟩
          intro y hy
          rw [take_one hx] at hy
          rcases List.mem_append.1 hy with hy | hy
          · exact ht y hy
          · rw [List.mem_singleton.1 hy]; exact hp
        · simp only [go_sem, hp]
          exact ⟨b1, _, rfl, by simp only [h0, true_iff]; exact fun h => hp (h x (List.mem_of_getElem? hx))⟩
      · simp only [go_sem, e2, e3, hz]
        rw [List.take_of_length_le (by omega)] at ht
        exact ⟨b1, _, rfl, ⟨fun h => absurd h (by omega), fun h => absurd ht h⟩⟩
  · rintro r H' ⟨h, q, rfl, hq⟩
    exact ⟨h, _, .cl rfl, rfl, hK q hq⟩
theorem k_contN {l : List Int} {n : Int} {v T : Nat} (hl : l.length ≤ 1000000000) : ACall Tryz.prog 72 [eI l, .fn 181 [.ptr 1000000 v 0]] (hp [.cells v T 1 [I64 n]]) (fun r H' => r = .bool (decide (¬ ∀ x ∈ l, x = n)) ∧ H' 1000000 = .cells v T 1 [I64 n]) := by
  refine call72 (by simp) ?_
  simp only [Tryz.results72, Tryz.ntmps72, Tryz.f72, Option.getD_some, pl72]
  simp only [go_sem]
  refine c_idxN (l := l) (n := n) (id := 1000000) (v := v) (T := T) hl (by simp only [go_sem]) fun r hr => ?_
  simp only [go_sem]
  exact bE hr
/-- Whether all of a piece of a stack of ours are of one kind. -/
theorem c_contN {a : AV} {l : List Int} {n : Int} {id v T : Nat} {H : Heap} {K : AV → Heap → Prop} (hl : l.length ≤ 1000000000) (hH : H id = .cells v T 1 [I64 n]) (hv : View H (inL 1) (rhoL [id]) (fun j => ![id].contains j) a (eI l)) (hK : K (.bool (decide (¬ ∀ x ∈ l, x = n))) H) : ACall Tryz.prog 72 [a, .fn 181 [.ptr id v 0]] H K := by
  refine ACall.handL [id] [.cells v T 1 [I64 n]] (by simp) ⟨hH, trivial⟩ rfl (.cons _ _ _ _ hv (.cons _ _ _ _ (.ren (.fn 181 [.ptr 1000000 v 0]) rfl) .nil)) (k_contN hl) ?_
  rintro r' H' ⟨rfl, h⟩
  refine ⟨[_], ⟨h, trivial⟩, rfl, rfl, rfl, ?_⟩
  simp only [lays]
  have e : upd H id (Blk.ren (rhoL [id]) (.cells v T 1 [I64 n])) = H := (congrArg (upd H id) (show Blk.ren (rhoL [id]) (.cells v T 1 [I64 n]) = H id from hH.symm)).trans (upd_self H id)
  exact Eq.mpr (congrArg (K _) e) hK
end Go.Proofs.YteegphdelekdaaaGreat

set_option linter.unusedVariables false
set_option linter.unusedSimpArgs false
namespace Go.Proofs.YteegphdelekdaaaGreat
open Go.Abs Go.IntWalk
set_option maxRecDepth 100000
attribute [local go_sem] eI eU eNs eN cN eChs eCh cCh eCos eCo cCo eP take_map
def wfT (t : List PNode) : Prop := ∀ x ∈ t, x.2 < 18446744073709551616
theorem many_le (op : Int) : manyOf op ≤ 2 := by
  unfold manyOf
  split
  · omega
  · split
    · omega
    · split <;> omega
theorem trun_step {wide vars : Int} {t : List PNode} {i : Nat} {x : PNode} {st : List Int} (hx : t[i]? = some x) (h : trun wide vars (t.take i) [] = some st) : trun wide vars (t.take (i + 1)) [] = tstep wide vars st x := by
  rw [take_one hx, trun_app, h, Option.bind_some, trun]
  cases tstep wide vars st x <;> rfl
theorem trun_none {wide vars : Int} {t : List PNode} {i : Nat} (h : trun wide vars (t.take i) [] = none) : trun wide vars t [] = none := by
  have := trun_app wide vars (t.take i) (t.drop i) []
  rw [List.take_append_drop, h] at this
  exact this
theorem tstep_none {wide vars : Int} {st : List Int} {x : PNode} (h : ¬ (ownOf x.1 ≠ 0 ∧ leafOk wide vars x ∧ manyOf x.1 ≤ st.length ∧ ∀ k ∈ st.take (manyOf x.1), k = partOf x.1)) : tstep wide vars st x = none := if_neg h
theorem kind_zero {wide vars : Int} {t : List PNode} (h : trun wide vars t [] = none) : kindT wide vars t = 0 := by
  unfold kindT; rw [h]; split <;> rfl
theorem rev_drop {l : List Int} {m : Nat} {p : Int} (h : m ≤ l.length) : (∀ x ∈ l.reverse.drop (l.length - m), x = p) ↔ ∀ x ∈ l.take m, x = p := by
  rw [List.drop_reverse, show l.length - (l.length - m) = m by omega]
  simp
theorem rev_take {l : List Int} {m : Nat} (h : m ≤ l.length) : l.reverse.take (l.length - m) = (l.drop m).reverse := by
  rw [List.take_reverse, show l.length - (l.length - m) = m by omega]
theorem frzDrop {H : Heap} {β : Nat → Bool} {id ver T r : Nat} {L : List Int} (hr : r ≤ L.length) (hβ : β id = true) (h : H id = .cells ver T 1 (L.map I64)) : FRes H β anyAV (.ref id ver r (L.length - r)) (eI (L.drop r)) := by
  have := FRes.slice (β := β) (pre := (L.take r).map I64) (post := []) (es := (L.drop r).map I64) (off := r) (sz := 1) hβ h (by rw [flat_map1 (f := I64) (fun _ => rfl), List.append_nil, ← List.map_append, List.take_append_drop]) (by simp; omega) (fun e he => by obtain ⟨x, _, rfl⟩ := List.mem_map.1 he; rfl) (fun e he y hy => by obtain ⟨x, _, rfl⟩ := List.mem_map.1 he; rw [List.mem_singleton.1 hy]; rfl)
  simpa [eI] using this
theorem c_goodT {wide vars : Int} {t : List PNode} (ht : wfT t) (hl : t.length ≤ 1000000000) {H : Heap} {K : AV → Heap → Prop} (hK : K (.bool (decide (kindT wide vars t ≠ 0))) H) : ACall Tryz.prog 153 [I64 wide, I64 vars, eNs t] H K := by
  refine pureC rfl rfl ?_ hK
  refine call153 (by simp) ?_
  simp only [Tryz.results153, Tryz.ntmps153, Tryz.f153, Option.getD_some, pl153]
  simp only [go_sem]
  have bad : ¬ (wideOk wide ∧ (1 ≤ vars ∧ vars ≤ 4) ∧ (1 ≤ t.length ∧ t.length ≤ 48)) → AV.bool false = AV.bool (decide (kindT wide vars t ≠ 0)) := fun h => bF fun e => e (by unfold kindT; rw [if_neg h])
  have bad2 : trun wide vars t [] = none → AV.bool false = AV.bool (decide (kindT wide vars t ≠ 0)) := fun h => bF fun e => e (kind_zero h)
  refine c_wideI ?_
  by_cases h1 : wideOk wide
  · simp only [go_sem, h1]
    refine c_varsI ?_
    by_cases h2 : 1 ≤ vars ∧ vars ≤ 4
    · by_cases h3 : (t.length : Int) < 1
      · simp only [go_sem, h2, h3]
        exact bad fun h => by omega
      · by_cases h4 : 48 < (t.length : Int)
        · simp only [go_sem, h2, h3, h4]
          exact bad fun h => by omega
        · simp only [go_sem, h2, h3, h4]
          refine ALoop.intro (pl := pl153) (fun k env H => ∃ (i sv : Nat) (ks : List Int), env 0 = I64 wide ∧ env 1 = I64 vars ∧ env 7 = .ref 32 sv 0 ks.reverse.length ∧ env 33 = eNs t ∧ env 34 = I64 t.length ∧ env 35 = I64 i ∧ H 32 = .cells sv 3 1 (ks.reverse.map I64) ∧ i + k = t.length ∧ ks.length ≤ i ∧ trun wide vars (t.take i) [] = some ks) t.length (by kernel_rfl) ?_ ?_
          · simp only [go_sem]
            exact ⟨0, _, [], rfl, rfl, rfl, by omega, by simp, rfl⟩
          · rintro k env H ⟨i, sv, ks, e0, e1, e7, e33, e34, e35, b32, hk, hks, hr⟩
            by_cases hz : (i : Int) < t.length
            · obtain ⟨x, hx⟩ := get_some (l := t) (i := i) (by omega)
              have h0 : (0 : Int) ≤ i := by omega
              have hw : IntKind.wrap .i64 ((i : Int) + 1) = i + 1 := i64_in _ (by omega)
              have hxw := ht x (List.mem_of_getElem? hx)
              have hml := many_le x.1
              have hstep := trun_step hx hr
              have nope : ¬ (ownOf x.1 ≠ 0 ∧ leafOk wide vars x ∧ manyOf x.1 ≤ ks.length ∧ ∀ k ∈ ks.take (manyOf x.1), k = partOf x.1) → AV.bool false = AV.bool (decide (kindT wide vars t ≠ 0)) := fun h => bad2 (trun_none (by rw [hstep]; exact tstep_none h))
              simp only [go_sem, pl153, e0, e1, e7, e33, e34, e35, b32, hz, hx, h0]
              refine c_opsI (op := x.1) fun p hp => ?_
              have hw2 : IntKind.wrap .i64 ((ks.length : Int) - (manyOf x.1 : Nat)) = ks.length - (manyOf x.1 : Nat) := i64_in _ (by omega)
              simp only [go_sem, pl153, e0, e1, e7, e33, e34, e35, b32, hz, hx, h0, List.length_reverse, hw2]
              by_cases c1 : ownOf x.1 = 0
              · simp only [go_sem, c1]
                exact nope fun h => h.1 c1
              · simp only [go_sem, c1, e0, e1, e7, b32]
                refine c_leafI (x := x) h2 hxw ?_
                by_cases c2 : leafOk wide vars x
                · by_cases c3 : (ks.length : Int) - (manyOf x.1 : Nat) < 0
                  · simp only [go_sem, c1, c2, c3, e0, e1, e7, b32, hw2, List.length_reverse]
                    exact nope fun h => by have := h.2.2.1; omega
                  · have c3' : (0 : Int) ≤ (ks.length : Int) - (manyOf x.1 : Nat) := by omega
                    have tn : ((ks.length : Int) - (manyOf x.1 : Nat)).toNat = ks.length - manyOf x.1 := by omega
                    simp only [go_sem, c1, c2, c3, e0, e1, e7, b32, hw2, List.length_reverse, c3', tn]
                    have c3n : manyOf x.1 ≤ ks.length := by omega
                    refine ⟨by omega, ?_⟩
                    have hfr := frzDrop (H := upd (upd (upd (upd H 9 (Blk.cells ((H 9).ver + 1) 94 1 [AV.int IntKind.i64 0, AV.int IntKind.u64 0])) 9 (Blk.cells ((H 9).ver + 1) 94 1 [I64 x.1, U64 x.2])) 11 (Blk.cells ((H 11).ver + 1) 3 1 [AV.int IntKind.i64 0])) 11 (Blk.cells ((H 11).ver + 1) 3 1 [AV.int IntKind.i64 p])) (β := fun j => ![11].contains j) (id := 32) (ver := sv) (T := 3) (r := ks.length - manyOf x.1) (L := ks.reverse) (by rw [List.length_reverse]; omega) rfl (by simp only [go_sem, b32])
                    rw [List.length_reverse] at hfr
                    refine c_contN (l := ks.reverse.drop (ks.length - manyOf x.1)) (n := p) (id := 11) (T := 3) (by rw [List.length_drop, List.length_reverse]; omega) (by simp only [go_sem]) (.frz _ _ hfr) ?_
                    have hall : (∀ y ∈ ks.reverse.drop (ks.length - manyOf x.1), y = p) ↔ ∀ y ∈ ks.take (manyOf x.1), y = partOf x.1 := by
                      rw [rev_drop c3n]
                      rcases Nat.eq_zero_or_pos (manyOf x.1) with h | h
                      · rw [h]; simp
                      · rw [hp (by omega)]
                    by_cases c4 : ∀ y ∈ ks.reverse.drop (ks.length - manyOf x.1), y = p
                    · have st : tstep wide vars ks x = some (ownOf x.1 :: ks.drop (manyOf x.1)) := if_pos ⟨c1, c2, c3n, hall.1 c4⟩
                      have hdec : decide (¬ ∀ y ∈ ks.reverse.drop (ks.length - manyOf x.1), y = p) = false := decide_eq_false (fun h => h c4)
                      simp only [go_sem, pl153, e0, e1, e7, e33, e34, e35, b32, hw, hw2, c3', tn, hdec, List.length_reverse]
                      refine ⟨by omega, by omega, by omega, k - 1, by omega, i + 1, sv + 1, ownOf x.1 :: ks.drop (manyOf x.1), ?_, rfl, ?_, by omega, ?_, by rw [hstep, st]⟩
                      · congr 1
                        rw [List.length_cons, List.length_drop]
                        omega
                      · congr 1
                        rw [Nat.sub_zero, ← List.map_take, rev_take c3n, List.reverse_cons, List.map_append]
                        rfl
                      · rw [List.length_cons, List.length_drop]; omega
                    · have hdec : decide (¬ ∀ y ∈ ks.reverse.drop (ks.length - manyOf x.1), y = p) = true := decide_eq_true c4
                      simp only [go_sem, hdec]
                      exact nope fun h => c4 (hall.2 h.2.2.2)
                · simp only [go_sem, c1, c2]
                  exact nope fun h => c2 h.2.1
            · simp only [go_sem, pl153, e0, e1, e7, e33, e34, e35, b32, hz]
              rw [List.take_of_length_le (by omega)] at hr
              refine bE ?_
              unfold kindT
              rw [if_pos ⟨h1, h2, by omega⟩, hr]
              have hpos := trun_pos (by simp) hr
              match ks, hpos with
              | [], _ => simp
              | [a], hpos => simpa using hpos a (by simp)
              | a :: b :: r, _ => simp; omega
    · simp only [go_sem, h2]
      exact bad fun h => h2 h.2.1
  · simp only [go_sem, h1]
    exact bad fun h => h1 h.1
end Go.Proofs.YteegphdelekdaaaGreat

set_option linter.unusedVariables false
set_option linter.unusedSimpArgs false
namespace Go.Proofs.YteegphdelekdaaaGreat
open Go.Abs Go.IntWalk
set_option maxRecDepth 100000
attribute [local go_sem] eI eU eNs eN cN eChs eCh cCh eCos eCo cCo eP take_map
theorem kind_last {wide vars : Int} {t : List PNode} (h : kindT wide vars t ≠ 0) : ∃ x, t[t.length - 1]? = some x ∧ ownOf x.1 = kindT wide vars t := by
  unfold kindT at *
  split at h
  · rename_i hc
    split at h
    · rename_i k hk
      have hne : t ≠ [] := by intro e; subst e; simp at hc
      obtain ⟨x, hx⟩ := get_some (l := t) (i := t.length - 1) (by have := hc.2.2.1; omega)
      refine ⟨x, hx, ?_⟩
      have hsp : t = t.take (t.length - 1) ++ [x] := by
        rw [← take_one hx, show t.length - 1 + 1 = t.length by have := hc.2.2.1; omega, List.take_length]
      rw [hsp, trun_app] at hk
      cases hr : trun wide vars (t.take (t.length - 1)) [] with
      | none => rw [hr] at hk; cases hk
      | some st =>
        rw [hr, Option.bind_some] at hk
        simp only [trun] at hk
        split at hk
        · rename_i s hs
          obtain ⟨_, _, _, _, rfl⟩ := tstep_some hs
          injection hk with hk
          injection hk with hk
          rw [if_pos hc]; exact hk
        · cases hk
    · exact absurd rfl h
  · exact absurd rfl h
theorem kind_conds {wide vars : Int} {t : List PNode} (h : kindT wide vars t ≠ 0) : wideOk wide ∧ (1 ≤ vars ∧ vars ≤ 4) ∧ (1 ≤ t.length ∧ t.length ≤ 48) := by
  unfold kindT at h
  split at h
  · assumption
  · exact absurd rfl h
theorem c_kindOf {wide vars : Int} {t : List PNode} (h : kindT wide vars t ≠ 0) {H : Heap} {K : AV → Heap → Prop} (hK : K (I64 (kindT wide vars t)) H) : ACall Tryz.prog 154 [eNs t] H K := by
  refine pureC rfl rfl ?_ hK
  refine call154 (by simp) ?_
  simp only [Tryz.results154, Tryz.ntmps154, Tryz.f154, Option.getD_some, pl154]
  obtain ⟨x, hx, ho⟩ := kind_last h
  have hc := kind_conds h
  have hw : IntKind.wrap .i64 ((t.length : Int) - 1) = t.length - 1 := i64_in _ (by omega)
  have h0 : (0 : Int) ≤ (t.length : Int) - 1 := by omega
  have tn : ((t.length : Int) - 1).toNat = t.length - 1 := by omega
  simp only [go_sem, hw, h0, tn, hx]
  refine c_opsI (op := x.1) fun p _ => ?_
  simp only [go_sem, ho]
theorem c_isTerm {wide vars kind : Int} {t : List PNode} (ht : wfT t) (hl : t.length ≤ 1000000000) (hk : kind ≠ 0) {H : Heap} {K : AV → Heap → Prop} (hK : K (.bool (decide (kindT wide vars t = kind))) H) : ACall Tryz.prog 126 [I64 wide, I64 vars, eNs t, I64 kind] H K := by
  refine pureC rfl rfl ?_ hK
  refine call126 (by simp) ?_
  simp only [Tryz.results126, Tryz.ntmps126, Tryz.f126, Option.getD_some, pl126]
  simp only [go_sem]
  refine c_goodT (wide := wide) (vars := vars) ht hl ?_
  by_cases h : kindT wide vars t = 0
  · simp only [go_sem, h, not_true_eq_false]
    exact bF (p := 0 = kind) (fun e => hk e.symm)
  · simp only [go_sem, h]
    refine c_kindOf (t := t) h ?_
    simp only [go_sem]
theorem c_kindS {wide vars : Int} {t : List PNode} (ht : wfT t) (hl : t.length ≤ 1000000000) {H : Heap} {K : AV → Heap → Prop} (hK : K (I64 (kindT wide vars t)) H) : ACall Tryz.prog 124 [I64 wide, I64 vars, eNs t] H K := by
  refine pureC rfl rfl ?_ hK
  refine call124 (by simp) ?_
  simp only [Tryz.results124, Tryz.ntmps124, Tryz.f124, Option.getD_some, pl124]
  simp only [go_sem]
  have bad : ¬ (wideOk wide ∧ (1 ≤ vars ∧ vars ≤ 4) ∧ (1 ≤ t.length ∧ t.length ≤ 48)) → I64 0 = I64 (kindT wide vars t) := fun h => by unfold kindT; rw [if_neg h]
  have bad2 : trun wide vars t [] = none → I64 0 = I64 (kindT wide vars t) := fun h => by rw [kind_zero h]
  refine c_wideS ?_
  by_cases h1 : wideOk wide
  · simp only [go_sem, h1]
    refine c_in ?_
    by_cases h2 : 1 ≤ vars ∧ vars ≤ 4
    · simp only [go_sem, h2]
      refine c_in ?_
      by_cases h3 : 1 ≤ (t.length : Int) ∧ (t.length : Int) ≤ 48
      · simp only [go_sem, h3]
        refine ALoop.thaw 900 3 1 (t := 7) (by simp only [go_sem]) ?_
        refine ALoop.intro (pl := pl124) (fun k env H => ∃ (i sv : Nat) (ks : List Int), env 0 = I64 wide ∧ env 1 = I64 vars ∧ env 7 = .ref 900 sv 0 ks.length ∧ env 27 = eNs t ∧ env 28 = I64 t.length ∧ env 29 = I64 i ∧ H 900 = .cells sv 3 1 (ks.reverse.map I64) ∧ i + k = t.length ∧ ks.length ≤ i ∧ trun wide vars (t.take i) [] = some ks) t.length (by kernel_rfl) ?_ ?_
        · simp only [go_sem]
          exact ⟨0, _, [], rfl, rfl, rfl, by omega, by simp, rfl⟩
        · rintro k env H ⟨i, sv, ks, e0, e1, e7, e27, e28, e29, b9, hk, hks, hr⟩
          by_cases hz : (i : Int) < t.length
          · obtain ⟨x, hx⟩ := get_some (l := t) (i := i) (by omega)
            have h0 : (0 : Int) ≤ i := by omega
            have hw : IntKind.wrap .i64 ((i : Int) + 1) = i + 1 := i64_in _ (by omega)
            have hxw := ht x (List.mem_of_getElem? hx)
            have hml := many_le x.1
            have hstep := trun_step hx hr
            have nope : ¬ (ownOf x.1 ≠ 0 ∧ leafOk wide vars x ∧ manyOf x.1 ≤ ks.length ∧ ∀ k ∈ ks.take (manyOf x.1), k = partOf x.1) → I64 0 = I64 (kindT wide vars t) := fun h => bad2 (trun_none (by rw [hstep]; exact tstep_none h))
            simp only [go_sem, pl124, e0, e1, e7, e27, e28, e29, b9, hz, hx, h0]
            refine c_opsS (op := x.1) fun p hp => ?_
            by_cases c1 : ownOf x.1 = 0
            · simp only [go_sem, c1, e0, e1, e7, e27, e28, e29, b9]
              exact nope fun h => h.1 c1
            · simp only [go_sem, c1, e0, e1, e7, e27, e28, e29, b9]
              refine c_leafS (x := x) h2 hxw ?_
              by_cases c2 : leafOk wide vars x
              · by_cases c3 : (ks.length : Int) < (manyOf x.1 : Nat)
                · simp only [go_sem, c2, c3, e0, e1, e7, e27, e28, e29, b9]
                  exact nope fun h => by have := h.2.2.1; omega
                · simp only [go_sem, c2, c3, e0, e1, e7, e27, e28, e29, b9]
                  have c3n : manyOf x.1 ≤ ks.length := by omega
                  refine ALoop.intro (pl := pl124) (fun j env H => env 0 = I64 wide ∧ env 1 = I64 vars ∧ env 7 = .ref 900 sv 0 (ks.length - (manyOf x.1 - j)) ∧ env 10 = I64 j ∧ env 11 = I64 p ∧ env 12 = I64 (ownOf x.1) ∧ env 27 = eNs t ∧ env 28 = I64 t.length ∧ env 29 = I64 i ∧ H 900 = .cells sv 3 1 (ks.reverse.map I64) ∧ j ≤ manyOf x.1 ∧ ∀ y ∈ ks.take (manyOf x.1 - j), y = partOf x.1) (manyOf x.1) (by kernel_rfl) ?_ ?_
                  · simp only [go_sem, e0, e1, e7, e27, e28, e29, b9]
                    simp
                  · clear e0 e1 e7 e27 e28 e29 b9
                    rintro j env H ⟨e0, e1, e7, e10, e11, e12, e27, e28, e29, b9, hj, hall⟩
                    by_cases hz2 : 0 < (j : Int)
                    · obtain ⟨y, hy⟩ := get_some (l := ks) (i := manyOf x.1 - j) (by omega)
                      have hlen : (((ks.length - (manyOf x.1 - j) : Nat) : Int)) = (ks.length : Int) - ((manyOf x.1 : Nat) - j) := by omega
                      have hw1 : IntKind.wrap .i64 (((ks.length - (manyOf x.1 - j) : Nat) : Int) - 1) = ((ks.length - 1 - (manyOf x.1 - j) : Nat) : Int) := (i64_in _ (by omega)).trans (by omega)
                      have hw2 : IntKind.wrap .i64 ((j : Int) - 1) = ((j - 1 : Nat) : Int) := (i64_in _ (by omega)).trans (by omega)
                      have hy2 : ks.reverse[ks.length - 1 - (manyOf x.1 - j)]? = some y := by
                        rw [List.getElem?_reverse (by omega), show ks.length - 1 - (ks.length - 1 - (manyOf x.1 - j)) = manyOf x.1 - j by omega, hy]
                      have q0 : (0 : Int) ≤ ((ks.length - 1 - (manyOf x.1 - j) : Nat) : Int) := by omega
                      have q1 : (((ks.length - 1 - (manyOf x.1 - j) : Nat) : Int)) < ((ks.length - (manyOf x.1 - j) : Nat) : Int) := by omega
                      have hpp : p = partOf x.1 := hp (by omega)
                      by_cases c4 : y = p
                      · simp only [go_sem, pl124, e0, e1, e7, e10, e11, e12, e27, e28, e29, b9, hz2, hw1, hw2, hy2, q0, q1, c4]
                        refine ⟨by omega, j - 1, by omega, by congr 1; omega, rfl, by omega, ?_⟩
                        intro z hz3
                        rw [show manyOf x.1 - (j - 1) = manyOf x.1 - j + 1 by omega, take_one hy] at hz3
                        rcases List.mem_append.1 hz3 with h | h
                        · exact hall z h
                        · rw [List.mem_singleton.1 h, c4, hpp]
                      · simp only [go_sem, pl124, e0, e1, e7, e10, e11, e12, e27, e28, e29, b9, hz2, hw1, hw2, hy2, q0, q1, c4]
                        exact nope fun h => c4 (by rw [hpp]; exact h.2.2.2 y (List.mem_iff_getElem?.2 ⟨manyOf x.1 - j, by rw [List.getElem?_take_of_lt (by omega)]; exact hy⟩))
                    · simp only [go_sem, pl124, e0, e1, e7, e10, e11, e12, e27, e28, e29, b9, hz2, hw]
                      have hj0 : j = 0 := by omega
                      subst hj0
                      rw [Nat.sub_zero] at hall
                      have st : tstep wide vars ks x = some (ownOf x.1 :: ks.drop (manyOf x.1)) := if_pos ⟨c1, c2, c3n, hall⟩
                      refine ⟨by rw [List.length_reverse]; omega, by omega, k - 1, by omega, i + 1, sv + 1, ownOf x.1 :: ks.drop (manyOf x.1), ?_, rfl, ?_, by omega, ?_, by rw [hstep, st]⟩
                      · congr 1
                        rw [List.length_cons, List.length_drop]
                        omega
                      · congr 1
                        rw [Nat.sub_zero, ← List.map_take, rev_take c3n, List.reverse_cons, List.map_append]
                        rfl
                      · rw [List.length_cons, List.length_drop]; omega
              · simp only [go_sem, c2]
                exact nope fun h => c2 h.2.1
          · simp only [go_sem, pl124, e0, e1, e7, e27, e28, e29, b9, hz]
            rw [List.take_of_length_le (by omega)] at hr
            have kv : ∀ a, ks = [a] → kindT wide vars t = a := fun a h => by
              unfold kindT
              rw [if_pos ⟨h1, h2, by omega⟩, hr, h]
            have kn : ks.length ≠ 1 → kindT wide vars t = 0 := fun h => by
              unfold kindT
              rw [if_pos ⟨h1, h2, by omega⟩, hr]
              match ks, h with
              | [], _ => rfl
              | [a], h => exact absurd rfl h
              | a :: b :: r, _ => rfl
            by_cases hl1 : (ks.length : Int) = 1
            · obtain ⟨a, ha⟩ := List.length_eq_one_iff.1 (show ks.length = 1 by omega)
              have hg : ks.reverse[0]? = some a := by rw [ha]; rfl
              simp only [go_sem, pl124, e7, b9, hl1, hg]
              rw [kv a ha]
            · simp only [go_sem, hl1]
              rw [kn (by omega)]
      · simp only [go_sem, h3]
        exact bad fun h => h3 (by omega)
    · simp only [go_sem, h2]
      exact bad fun h => h2 h.2.1
  · simp only [go_sem, h1]
    exact bad fun h => h1 h.1
end Go.Proofs.YteegphdelekdaaaGreat

set_option linter.unusedVariables false
set_option linter.unusedSimpArgs false
namespace Go.Proofs.YteegphdelekdaaaGreat
open Go.Abs Go.IntWalk
set_option maxRecDepth 100000
attribute [local go_sem] eI eU eNs eN cN eChs eCh cCh eCos eCo cCo eP take_map
theorem trun_pre {wide vars : Int} {t : List PNode} {st : List Int} (h : trun wide vars t [] = some st) (i : Nat) : ∃ ks, trun wide vars (t.take i) [] = some ks := by
  cases hr : trun wide vars (t.take i) [] with
  | none => rw [trun_none hr] at h; cases h
  | some ks => exact ⟨ks, rfl⟩
theorem kind_run {wide vars : Int} {t : List PNode} (h : kindT wide vars t ≠ 0) : trun wide vars t [] = some [kindT wide vars t] := by
  unfold kindT at *
  split at h
  · rename_i hc
    split at h
    · rename_i k hk
      rw [if_pos hc, hk]
    · exact absurd rfl h
  · exact absurd rfl h
theorem erun_step {w : Nat} {s : List Nat} {t : List PNode} {i : Nat} {x : PNode} (hx : t[i]? = some x) : erun w s (t.take (i + 1)) [] = estep w s (erun w s (t.take i) []) x := by
  rw [take_one hx, erun_app]; rfl
theorem flip_val {w a : Nat} (hw : w ≤ 64) (ha : a < 2 ^ w) : (18446744073709551615 - a) % 2 ^ w = 2 ^ w - 1 - a := by
  have h6 := pow_le64 hw
  obtain ⟨c, hc⟩ := pow_dvd64 hw
  have h7 : 18446744073709551615 - a = (2 ^ w - 1 - a) + 2 ^ w * (c - 1) := by
    have : 2 ^ w * c = 2 ^ w * (c - 1) + 2 ^ w := by
      have hc0 : 0 < c := by
        rcases Nat.eq_zero_or_pos c with rfl | h
        · omega
        · exact h
      obtain ⟨d, rfl⟩ : ∃ d, c = d + 1 := ⟨c - 1, by omega⟩
      rw [Nat.mul_succ]; simp
    omega
  rw [h7, Nat.add_mul_mod_self_left, Nat.mod_eq_of_lt (by omega)]
theorem set_last {α : Type} {r : List α} {a b : α} : (r.reverse ++ [a]).set r.length b = r.reverse ++ [b] := by
  rw [List.set_append_right _ _ (by simp)]
  simp
theorem mode_flip {w a : Nat} (h1 : 1 ≤ w) (h2 : w ≤ 64) (ha : a < 2 ^ w) : abits .and .u64 ((18446744073709551615 - a : Nat) : Int) ((2 ^ w - 1 : Nat) : Int) = ((2 ^ w - 1 - a : Nat) : Int) := by
  have h6 := pow_le64 h2
  have hp : 0 < 2 ^ w := Nat.pow_pos (by omega)
  rw [and_u (by omega) (by omega), and_mask, flip_val h2 ha]
theorem one_sub {a : Nat} (h : a ≤ 1) : IntKind.wrap .u64 (1 - (a : Int)) = ((1 - a : Nat) : Int) := (u64_in _ (by omega)).trans (by omega)
theorem c_value {w vars : Nat} {t : List PNode} {s : List Nat} (hg : kindT (w : Int) (vars : Int) t ≠ 0) (hs : s.length = vars) (hsw : ∀ v ∈ s, v < 2 ^ w) {H : Heap} {K : AV → Heap → Prop} (hK : K (U64 (evalT w t s)) H) : ACall Tryz.prog 122 [I64 w, eNs t, eU s] H K := by
  refine pureC rfl rfl ?_ hK
  refine call122 (by simp) ?_
  simp only [Tryz.results122, Tryz.ntmps122, Tryz.f122, Option.getD_some, pl122]
  have hc := kind_conds hg
  have hrun := kind_run hg
  have h1 : 1 ≤ w := by have := hc.1.1; omega
  have h2 : w ≤ 64 := by have := hc.1.2; omega
  simp only [go_sem]
  refine ALoop.intro (pl := pl122) (fun k env H => ∃ (i sv : Nat) (ks : List Int) (vs : List Nat), env 0 = I64 w ∧ env 2 = eU s ∧ env 7 = .ref 11 sv 0 vs.length ∧ env 12 = eNs t ∧ env 13 = I64 t.length ∧ env 14 = I64 i ∧ H 11 = .cells sv 73 1 (vs.reverse.map U64) ∧ i + k = t.length ∧ vs.length ≤ i ∧ trun (w : Int) (vars : Int) (t.take i) [] = some ks ∧ fitsL w ks vs ∧ vs = erun w s (t.take i) []) t.length (by kernel_rfl) ?_ ?_
  · simp only [go_sem]
    exact ⟨0, _, [], [], rfl, rfl, rfl, by omega, by simp, rfl, trivial, rfl⟩
  · rintro k env H ⟨i, sv, ks, vs, e0, e2, e7, e12, e13, e14, b11, hk, hvl, hr, hf, he⟩
    by_cases hz : (i : Int) < t.length
    · obtain ⟨x, hx⟩ := get_some (l := t) (i := i) (by omega)
      have h0 : (0 : Int) ≤ i := by omega
      have hw : IntKind.wrap .i64 ((i : Int) + 1) = i + 1 := i64_in _ (by omega)
      have hlast : IntKind.wrap .i64 ((vs.length : Int) - 1) = vs.length - 1 := i64_in _ (by omega)
      obtain ⟨ks', hr'⟩ := trun_pre hrun (i + 1)
      have hst : tstep (w : Int) (vars : Int) ks x = some ks' := by rw [← trun_step hx hr]; exact hr'
      have hf' := step_fits h1 hs hsw hf hst
      have he' : estep w s vs x = erun w s (t.take (i + 1)) [] := by rw [erun_step hx, he]
      obtain ⟨hleaf, hcase⟩ := op_case hst
      have fin : ∀ (sv' : Nat) (vs' : List Nat), vs' = estep w s vs x → vs'.length ≤ i + 1 → ∃ k', k' < k ∧ ∃ (i2 sv2 : Nat) (ks2 : List Int) (vs2 : List Nat), AV.ref 11 sv' 0 vs'.length = .ref 11 sv2 0 vs2.length ∧ AV.int .i64 (i + 1) = I64 i2 ∧ Blk.cells sv' 73 1 (vs'.reverse.map U64) = .cells sv2 73 1 (vs2.reverse.map U64) ∧ i2 + k' = t.length ∧ vs2.length ≤ i2 ∧ trun (w : Int) (vars : Int) (t.take i2) [] = some ks2 ∧ fitsL w ks2 vs2 ∧ vs2 = erun w s (t.take i2) [] := fun sv' vs' hv hl =>
        ⟨k - 1, by omega, i + 1, sv', ks', vs', rfl, rfl, rfl, by omega, hl, hr', by rw [hv]; exact hf', by rw [hv, he']⟩
      have push : ∀ v : Nat, List.take vs.length (List.map U64 vs.reverse) ++ [AV.int .u64 (v : Int)] = ((v :: vs).reverse).map U64 := fun v => by
        rw [List.take_of_length_le (by simp)]; simp
      obtain ⟨op, n⟩ := x
      cases hcase with
      | leaf h =>
        simp only at h
        rcases h with rfl | rfl | rfl
        · simp only [go_sem, pl122, e0, e2, e7, e12, e13, e14, b11, hz, hx, h0, hw, hlast, push]
          exact ⟨by simp, by omega, fin (sv + 1) (n :: vs) rfl (by rw [List.length_cons]; omega)⟩
        · have hn : n < s.length := by
            simp [leafOk] at hleaf
            omega
          obtain ⟨v, hv⟩ := get_some (l := s) (i := n) hn
          have hn0 : (0 : Int) ≤ n := by omega
          simp only [go_sem, pl122, e0, e2, e7, e12, e13, e14, b11, hz, hx, h0, hw, hlast, push, hv, hn0]
          exact ⟨by simp, by omega, fin (sv + 1) (v :: vs) (by simp [estep, hv]) (by rw [List.length_cons]; omega)⟩
        · simp only [go_sem, pl122, e0, e2, e7, e12, e13, e14, b11, hz, hx, h0, hw, hlast, push]
          exact ⟨by simp, by omega, fin (sv + 1) (n :: vs) rfl (by rw [List.length_cons]; omega)⟩
      | one r hst2 h =>
        subst hst2
        obtain ⟨a, rs, hvs⟩ : ∃ a rs, vs = a :: rs := by
          match vs, hf with
          | a :: rs, _ => exact ⟨a, rs, rfl⟩
        have hf1 : fitsK w (partOf op) a := by rw [hvs] at hf; exact hf.1
        have ha := fitsK_lt h1 hf1
        have hvl2 : vs.length = rs.length + 1 := by rw [hvs]; rfl
        have hlast : IntKind.wrap .i64 ((vs.length : Int) - 1) = ((vs.length - 1 : Nat) : Int) := (i64_in _ (by omega)).trans (by omega)
        have g1 : vs.reverse[vs.length - 1]? = some a := by rw [hvs]; simp
        have q0 : (0 : Int) ≤ ((vs.length - 1 : Nat) : Int) := by omega
        have q1 : (((vs.length - 1 : Nat) : Int)) < (vs.length : Int) := by omega
        have q2 : ∀ b : Nat, ((List.map U64 vs.reverse).set (vs.length - 1) (AV.int .u64 (b : Int))) = ((b :: rs).reverse).map U64 := fun b => by
          rw [hvs, List.reverse_cons, List.reverse_cons, List.map_append, List.map_append]
          simp
        have q3 : vs.length - 1 < vs.length := by omega
        have a64 := lt64 h2 ha
        have lenb : ∀ b : Nat, vs.length = (b :: rs).length := fun b => by rw [hvl2]; rfl
        simp only at h
        rcases h with rfl | rfl
        · have f1 := not_u a64
          have f2 := mode_flip h1 h2 ha
          simp only [go_sem, pl122, e0, e2, e7, e12, e13, e14, b11, hz, hx, h0, hw, hlast, g1, q0, q1, f1]
          refine c_mask h1 h2 ?_
          simp only [go_sem, pl122, e0, e2, e7, e12, e13, e14, b11, hz, hx, h0, hw, hlast, g1, q0, q1, f1, f2, q2]
          refine ⟨by rw [List.length_reverse]; omega, ?_⟩
          rw [lenb (2 ^ w - 1 - a)]
          exact fin sv ((2 ^ w - 1 - a) :: rs) (by rw [hvs]; simp [estep]) (by rw [List.length_cons]; omega)
        · have hp2 : a ≤ 1 := by
            rcases hf1 with ⟨hk1, _⟩ | ⟨_, h⟩
            · simp [partOf] at hk1
            · exact h
          have f1 := one_sub hp2
          simp only [go_sem, pl122, e0, e2, e7, e12, e13, e14, b11, hz, hx, h0, hw, hlast, g1, q0, q1, f1, q2]
          refine ⟨by rw [List.length_reverse]; omega, ?_⟩
          rw [lenb (1 - a)]
          exact fin sv ((1 - a) :: rs) (by rw [hvs]; simp [estep]) (by rw [List.length_cons]; omega)
      | two r hst2 h =>
        subst hst2
        obtain ⟨b, a, rs, hvs⟩ : ∃ b a rs, vs = b :: a :: rs := by
          match vs, hf with
          | b :: a :: rs, _ => exact ⟨b, a, rs, rfl⟩
        have hb : b < 2 ^ w := by rw [hvs] at hf; exact fitsK_lt h1 hf.1
        have ha : a < 2 ^ w := by rw [hvs] at hf; exact fitsK_lt h1 hf.2.1
        have hvl2 : vs.length = rs.length + 1 + 1 := by rw [hvs]; rfl
        have hlast : IntKind.wrap .i64 ((vs.length : Int) - 1) = ((vs.length - 1 : Nat) : Int) := (i64_in _ (by omega)).trans (by omega)
        have hlast2 : IntKind.wrap .i64 (((vs.length - 1 : Nat) : Int) - 1) = ((vs.length - 2 : Nat) : Int) := (i64_in _ (by omega)).trans (by omega)
        have g1 : vs.reverse[vs.length - 1]? = some b := by rw [hvs]; simp
        have g2 : vs.reverse[vs.length - 2]? = some a := by rw [hvs]; simp
        have q0 : (0 : Int) ≤ ((vs.length - 1 : Nat) : Int) := by omega
        have q1 : (((vs.length - 1 : Nat) : Int)) < (vs.length : Int) := by omega
        have q2 : (0 : Int) ≤ ((vs.length - 2 : Nat) : Int) := by omega
        have q3 : (((vs.length - 2 : Nat) : Int)) < (vs.length : Int) := by omega
        simp only at h
        have n1 : ¬ op = 1 := by omega
        have n2 : ¬ op = 2 := by omega
        have n13 : ¬ op = 13 := by
          intro e; subst e
          omega
        have n19 : ¬ op = 19 := by omega
        have n20 : ¬ op = 20 := by omega
        simp only [go_sem, pl122, e0, e2, e7, e12, e13, e14, b11, hz, hx, h0, hw, hlast, hlast2, g1, g2, q0, q1, q2, q3, n1, n2, n13, n19, n20]
        refine ⟨by omega, ?_⟩
        refine c_apply h1 h2 ha hb ?_
        simp only [go_sem, pl122, e0, e2, e7, e12, e13, e14, b11, hz, hx, h0, hw, hlast, hlast2, g1, g2, q0, q1, q2, q3, n1, n2, n13, n19, n20]
        refine ⟨by first | omega | (rw [List.length_reverse]; omega), by first | omega | (rw [List.length_reverse]; omega), by first | omega | (rw [List.length_reverse]; omega), by first | omega | (rw [List.length_reverse]; omega), ?_⟩
        have q5 : List.take (vs.length - 2 - 0) (List.map U64 vs.reverse) ++ [AV.int .u64 ((doOp w op a b : Nat) : Int)] = ((doOp w op a b :: rs).reverse).map U64 := by
          rw [hvs, List.reverse_cons, List.reverse_cons, List.reverse_cons, List.map_append, List.map_append, List.map_append, List.append_assoc, List.take_append_of_le_length (by simp), List.take_of_length_le (by simp)]
          rfl
        rw [q5, show vs.length - 2 - 0 + 1 = (doOp w op a b :: rs).length by rw [List.length_cons]; omega]
        exact fin (sv + 1) (doOp w op a b :: rs) (by rw [hvs]; unfold estep; simp only [n1, n2, n13, n19, n20, or_self, if_false]) (by rw [List.length_cons]; omega)
    · have hi : i = t.length := by omega
      have hvs : vs = erun w s t [] := by rw [he, hi, List.take_length]
      have hks : ks = [kindT w vars t] := by rw [hi, List.take_length, hrun] at hr; injection hr with hr; exact hr.symm
      rw [hks] at hf
      obtain ⟨v, hv⟩ : ∃ v, vs = [v] := by
        match vs, hf with
        | [v], _ => exact ⟨v, rfl⟩
      have hg1 : vs.reverse[0]? = some v := by rw [hv]; rfl
      have hpos : (0 : Int) < vs.length := by rw [hv]; simp
      simp only [go_sem, pl122, e0, e2, e7, e12, e13, e14, b11, hz, hpos, hg1]
      unfold evalT
      rw [← hvs, hv]
      rfl
end Go.Proofs.YteegphdelekdaaaGreat

set_option linter.unusedVariables false
set_option linter.unusedSimpArgs false
namespace Go.Proofs.YteegphdelekdaaaGreat
open Go.Abs Go.IntWalk
set_option maxRecDepth 100000
attribute [local go_sem] eI eU eNs eN cN eChs eCh cCh eCos eCo cCo eP take_map
theorem c_fromGo {t : List PNode} {k : Nat} {x : PNode} (hl : t.length ≤ 1000000000) (hx : t[k]? = some x) (cs : Nat → Nat) (h0 : cs 0 = k) (hle : ∀ j, j < manyOf x.1 → 1 ≤ cs j ∧ cs j ≤ 1000000000)
    (hc : ∀ j, j < manyOf x.1 → ∀ (H : Heap) (K : AV → Heap → Prop), K (I64 (cs (j + 1))) H → ACall Tryz.prog 152 [eNs t, I64 ((cs j - 1 : Nat) : Int)] H K) {H : Heap} {K : AV → Heap → Prop} (hK : K (I64 (cs (manyOf x.1))) H) : ACall Tryz.prog 152 [eNs t, I64 k] H K := by
  refine pureC rfl rfl ?_ hK
  refine call152 (by simp) ?_
  simp only [Tryz.results152, Tryz.ntmps152, Tryz.f152, Option.getD_some, pl152]
  have hk0 : (0 : Int) ≤ k := by omega
  simp only [go_sem, hx, hk0]
  refine c_opsS (op := x.1) fun p _ => ?_
  simp only [go_sem]
  refine ALoop.intro (pl := pl152) (fun j env H => env 0 = eNs t ∧ env 5 = I64 j ∧ j ≤ manyOf x.1 ∧ env 8 = I64 (cs (manyOf x.1 - j))) (manyOf x.1) (by kernel_rfl) ?_ ?_
  · simp only [go_sem, Nat.sub_self, h0]
  · rintro j env H ⟨e0, e5, hj, e8⟩
    by_cases hz : 0 < (j : Int)
    · have hb := hle (manyOf x.1 - j) (by omega)
      have hw1 : IntKind.wrap .i64 ((cs (manyOf x.1 - j) : Int) - 1) = ((cs (manyOf x.1 - j) - 1 : Nat) : Int) := (i64_in _ (by omega)).trans (by omega)
      have hw2 : IntKind.wrap .i64 ((j : Int) - 1) = ((j - 1 : Nat) : Int) := (i64_in _ (by have := many_le x.1; omega)).trans (by omega)
      simp only [go_sem, pl152, e0, e5, e8, hz, hw1, hw2]
      refine hc (manyOf x.1 - j) (by omega) _ _ ?_
      simp only [go_sem, pl152, e0, e5, e8, hz, hw1, hw2]
      exact ⟨j - 1, by omega, rfl, by omega, by rw [show manyOf x.1 - (j - 1) = manyOf x.1 - j + 1 by omega]⟩
    · simp only [go_sem, e0, e5, e8, hz]
      have : j = 0 := by omega
      subst this
      rw [Nat.sub_zero]
/-- The tree of a node: where it begins, its value. -/
theorem tree_ok {w vars : Nat} {t : List PNode} {s : List Nat} (hg : kindT (w : Int) (vars : Int) t ≠ 0) (hs : s.length = vars) (hsw : ∀ v ∈ s, v < 2 ^ w) : ∀ (k : Nat), k < t.length →
    ∃ f v, f ≤ k ∧ erun w s (t.take (k + 1)) [] = v :: erun w s (t.take f) [] ∧ (∀ (H : Heap) (K : AV → Heap → Prop), K (I64 f) H → ACall Tryz.prog 152 [eNs t, I64 k] H K) ∧
      (∀ (H : Heap) (K : AV → Heap → Prop), K (U64 v) H → ACall Tryz.prog 125 [I64 w, eNs t, I64 k, eU s] H K) := by
  have hc := kind_conds hg
  have hrun := kind_run hg
  have h1 : 1 ≤ w := by have := hc.1.1; omega
  have h2 : w ≤ 64 := by have := hc.1.2; omega
  have hl : t.length ≤ 1000000000 := by omega
  intro k
  induction k using Nat.strongRecOn with
  | ind k ih =>
    intro hk
    obtain ⟨x, hx⟩ := get_some hk
    obtain ⟨ks, hr⟩ := trun_pre hrun k
    obtain ⟨ks', hr'⟩ := trun_pre hrun (k + 1)
    have hst : tstep (w : Int) (vars : Int) ks x = some ks' := by rw [← trun_step hx hr]; exact hr'
    have hf := run_fits h1 hs hsw (t.take k) [] ks [] trivial hr
    have hes := erun_step (w := w) (s := s) hx
    obtain ⟨hleaf, hcase⟩ := op_case hst
    have hk0 : (0 : Int) ≤ k := by omega
    have prev : ∀ a rs, erun w s (t.take k) [] = a :: rs → 1 ≤ k := fun a rs h => by
      rcases Nat.eq_zero_or_pos k with rfl | h0
      · rw [List.take_zero] at h; cases h
      · exact h0
    have hwk : IntKind.wrap .i64 ((k : Int) - 1) = (k : Int) - 1 := i64_in _ (by omega)
    have hm13 : ((manyOf 13 : Nat) : Int) = 1 := rfl
    have hm19 : ((manyOf 19 : Nat) : Int) = 1 := rfl
    cases hcase with
    | leaf h =>
      have hm : manyOf x.1 = 0 := by unfold manyOf; rw [if_pos h]
      have hv : ∃ v, estep w s (erun w s (t.take k) []) x = v :: erun w s (t.take k) [] ∧ ((x.1 = 2 ∧ s[x.2]? = some v) ∨ (x.1 ≠ 2 ∧ v = x.2)) := by
        rcases h with h | h | h
        · exact ⟨x.2, by simp [estep, h], .inr ⟨by omega, rfl⟩⟩
        · have hn : x.2 < s.length := by
            simp [leafOk, h] at hleaf
            omega
          obtain ⟨v, hv⟩ := get_some hn
          exact ⟨v, by simp [estep, h, hv], .inl ⟨h, hv⟩⟩
        · exact ⟨x.2, by simp [estep, h], .inr ⟨by omega, rfl⟩⟩
      obtain ⟨v, hv1, hv2⟩ := hv
      refine ⟨k, v, Nat.le_refl _, by rw [hes, hv1], fun H K hK => ?_, fun H K hK => ?_⟩
      · refine c_fromGo hl hx (fun _ => k) rfl (fun j hj => by omega) (fun j hj => by omega) hK
      · refine pureC rfl rfl ?_ hK
        refine call125 (by simp) ?_
        simp only [Tryz.results125, Tryz.ntmps125, Tryz.f125, Option.getD_some, pl125]
        simp only [go_sem, hx, hk0]
        refine c_opsS (op := x.1) fun p _ => ?_
        rcases hv2 with ⟨e, hv2⟩ | ⟨e, rfl⟩
        · have hn0 : (0 : Int) ≤ x.2 := by omega
          simp only [go_sem, e, hv2, hn0]
        · simp only [go_sem, e, hm, Int.cast_ofNat_Int]
    | one r hst2 h =>
      have hm : manyOf x.1 = 1 := by unfold manyOf; rw [if_neg (by omega), if_pos h]
      rw [hst2] at hf
      obtain ⟨a, rs, hvs⟩ : ∃ a rs, erun w s (t.take k) [] = a :: rs := by
        match h : erun w s (t.take k) [], hf with
        | a :: rs, _ => exact ⟨a, rs, rfl⟩
      rw [hvs] at hf
      have ha := fitsK_lt h1 hf.1
      have hk1 := prev a rs hvs
      obtain ⟨f1, v1, hf1, hv1, hc1, hc2⟩ := ih (k - 1) (by omega) (by omega)
      rw [show k - 1 + 1 = k by omega, hvs] at hv1
      injection hv1 with hva hvr
      subst hva
      have hkc : ((k - 1 : Nat) : Int) = (k : Int) - 1 := by omega
      rw [hkc] at hc1 hc2
      have cs : ∀ (H : Heap) (K : AV → Heap → Prop), K (I64 f1) H → ACall Tryz.prog 152 [eNs t, I64 k] H K := fun H K hK => by
        refine c_fromGo hl hx (fun j => if j = 0 then k else f1) rfl (fun j hj => ?_) (fun j hj H K hK => ?_) ?_
        · have : j = 0 := by omega
          subst this; simp; omega
        · have : j = 0 := by omega
          subst this
          simp only [if_true]
          rw [hkc]
          exact hc1 H K hK
        · rw [hm]; exact hK
      rcases h with h | h
      · refine ⟨f1, 2 ^ w - 1 - a, by omega, by rw [hes, hvs]; simp [estep, h, hvr], cs, fun H K hK => ?_⟩
        refine pureC rfl rfl ?_ hK
        refine call125 (by simp) ?_
        simp only [Tryz.results125, Tryz.ntmps125, Tryz.f125, Option.getD_some, pl125]
        simp only [go_sem, hx, hk0]
        refine c_opsS (op := x.1) fun p _ => ?_
        simp only [go_sem, h, hm13, hwk]
        refine hc2 _ _ ?_
        have a64 := lt64 h2 ha
        have f1 := not_u a64
        simp only [go_sem, f1]
        refine c_cut (a := 18446744073709551615 - a) h2 (by omega) ?_
        rw [flip_val h2 ha]
        simp only [go_sem]
      · have hp2 : a ≤ 1 := by
          have := hf.1
          rcases this with ⟨hk1, _⟩ | ⟨_, h⟩
          · simp [partOf, h] at hk1
          · exact h
        refine ⟨f1, 1 - a, by omega, by rw [hes, hvs]; simp [estep, h, hvr], cs, fun H K hK => ?_⟩
        refine pureC rfl rfl ?_ hK
        refine call125 (by simp) ?_
        simp only [Tryz.results125, Tryz.ntmps125, Tryz.f125, Option.getD_some, pl125]
        simp only [go_sem, hx, hk0]
        refine c_opsS (op := x.1) fun p _ => ?_
        simp only [go_sem, h, hm19, hwk]
        refine hc2 _ _ ?_
        have f1 := one_sub hp2
        simp only [go_sem, f1]
    | two r hst2 h =>
      have hm : manyOf x.1 = 2 := by unfold manyOf; rw [if_neg (by omega), if_neg (by omega), if_pos (by omega)]
      rw [hst2] at hf
      obtain ⟨b, a, rs, hvs⟩ : ∃ b a rs, erun w s (t.take k) [] = b :: a :: rs := by
        match h : erun w s (t.take k) [], hf with
        | b :: a :: rs, _ => exact ⟨b, a, rs, rfl⟩
      rw [hvs] at hf
      have hb := fitsK_lt h1 hf.1
      have ha := fitsK_lt h1 hf.2.1
      have hk1 := prev b _ hvs
      obtain ⟨f1, v1, hf1, hv1, hc1, hc2⟩ := ih (k - 1) (by omega) (by omega)
      rw [show k - 1 + 1 = k by omega, hvs] at hv1
      injection hv1 with hva hvr
      subst hva
      have hf1p : 1 ≤ f1 := by
        rcases Nat.eq_zero_or_pos f1 with rfl | h0
        · rw [List.take_zero] at hvr; cases hvr
        · exact h0
      obtain ⟨f2, v2, hf2, hv2, hc3, hc4⟩ := ih (f1 - 1) (by omega) (by omega)
      rw [show f1 - 1 + 1 = f1 by omega, ← hvr] at hv2
      injection hv2 with hva2 hvr2
      subst hva2
      have hkc : ((k - 1 : Nat) : Int) = (k : Int) - 1 := by omega
      have hfc : ((f1 - 1 : Nat) : Int) = (f1 : Int) - 1 := by omega
      rw [hkc] at hc1 hc2
      rw [hfc] at hc3 hc4
      have hwf : IntKind.wrap .i64 ((f1 : Int) - 1) = (f1 : Int) - 1 := i64_in _ (by omega)
      have n1 : ¬ x.1 = 1 := by omega
      have n2 : ¬ x.1 = 2 := by omega
      have n13 : ¬ x.1 = 13 := by omega
      have n19 : ¬ x.1 = 19 := by omega
      have n20 : ¬ x.1 = 20 := by omega
      have hm0 : ¬ ((manyOf x.1 : Nat) : Int) = 0 := by omega
      refine ⟨f2, doOp w x.1 a b, by omega, by rw [hes, hvs, ← hvr2]; unfold estep; simp only [n1, n2, n13, n19, n20, or_self, if_false], fun H K hK => ?_, fun H K hK => ?_⟩
      · refine c_fromGo hl hx (fun j => if j = 0 then k else if j = 1 then f1 else f2) rfl (fun j hj => ?_) (fun j hj H K hK => ?_) ?_
        · rcases (show j = 0 ∨ j = 1 by omega) with rfl | rfl
          · simp; omega
          · simp; omega
        · rcases (show j = 0 ∨ j = 1 by omega) with rfl | rfl
          · simp only [if_true, Nat.zero_add, Nat.one_ne_zero, if_false] at hK ⊢
            rw [hkc]
            exact hc1 H K hK
          · simp only [if_true, Nat.one_ne_zero, if_false, Nat.reduceAdd, Nat.reduceEqDiff] at hK ⊢
            rw [hfc]
            exact hc3 H K hK
        · rw [hm]; exact hK
      · refine pureC rfl rfl ?_ hK
        refine call125 (by simp) ?_
        simp only [Tryz.results125, Tryz.ntmps125, Tryz.f125, Option.getD_some, pl125]
        simp only [go_sem, hx, hk0]
        refine c_opsS (op := x.1) fun p _ => ?_
        simp only [go_sem, n2, n13, n19, hm0, hwk]
        refine hc1 _ _ ?_
        simp only [go_sem, hwf, hwk]
        refine hc4 _ _ ?_
        simp only [go_sem]
        refine ⟨congrArg (AV.int .i64) hwk, ?_⟩
        refine hc2 _ _ ?_
        simp only [go_sem]
        refine c_do h1 h2 ha hb ?_
        simp only [go_sem]
/-- The value of a good term. -/
theorem c_valueS {w vars : Nat} {t : List PNode} {s : List Nat} (hg : kindT (w : Int) (vars : Int) t ≠ 0) (hs : s.length = vars) (hsw : ∀ v ∈ s, v < 2 ^ w) {H : Heap} {K : AV → Heap → Prop} (hK : K (U64 (evalT w t s)) H) : ACall Tryz.prog 125 [I64 w, eNs t, I64 ((t.length : Int) - 1), eU s] H K := by
  have hc := kind_conds hg
  have hrun := kind_run hg
  obtain ⟨f, v, hf, hv, _, hcall⟩ := tree_ok hg hs hsw (t.length - 1) (by omega)
  rw [show ((t.length - 1 : Nat) : Int) = (t.length : Int) - 1 by omega] at hcall
  refine hcall _ _ ?_
  rw [show t.length - 1 + 1 = t.length by omega, List.take_length] at hv
  have : evalT w t s = v := by unfold evalT; rw [hv]; rfl
  rwa [this] at hK
end Go.Proofs.YteegphdelekdaaaGreat
