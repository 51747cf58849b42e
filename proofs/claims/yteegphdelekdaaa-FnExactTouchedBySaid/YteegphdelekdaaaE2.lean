/- Texts of ours, joined: YteegphdelekdaaaH7 YteegphdelekdaaaH8 YteegphdelekdaaaH9 YteegphdelekdaaaH10 YteegphdelekdaaaH11 YteegphdelekdaaaH12. -/
import Derived.Test.YteegphdelekdaaaE1
set_option linter.unusedVariables false
set_option linter.unusedSimpArgs false
namespace Go.Proofs.Yteegphdelekdaaa
open Go.Abs Go.IntWalk
/-! What a term is, and its value. -/
def manyOf (op : Int) : Nat := if op = 1 ∨ op = 2 ∨ op = 20 then 0 else if op = 13 ∨ op = 19 then 1 else if (3 ≤ op ∧ op ≤ 12) ∨ (14 ≤ op ∧ op ≤ 16) ∨ op = 17 ∨ op = 18 then 2 else 0
def partOf (op : Int) : Int := if op = 13 then 1 else if op = 19 then 2 else if (3 ≤ op ∧ op ≤ 12) ∨ (14 ≤ op ∧ op ≤ 16) then 1 else if op = 17 ∨ op = 18 then 2 else 0
def ownOf (op : Int) : Int := if op = 1 ∨ op = 2 then 1 else if op = 20 then 2 else if op = 13 then 1 else if op = 19 then 2 else if 3 ≤ op ∧ op ≤ 12 then 1 else if 14 ≤ op ∧ op ≤ 16 then 2 else if op = 17 ∨ op = 18 then 2 else 0
def leafOk (wide vars : Int) (x : PNode) : Prop := if x.1 = 1 then gw wide x.2 else if x.1 = 2 then (x.2 : Int) < vars else if x.1 = 20 then x.2 ≤ 1 else x.2 = 0
instance (wide vars : Int) (x : PNode) : Decidable (leafOk wide vars x) := by unfold leafOk; infer_instance
/-- One node: the kinds on the stack, the top first. -/
def tstep (wide vars : Int) (st : List Int) (x : PNode) : Option (List Int) :=
  if ownOf x.1 ≠ 0 ∧ leafOk wide vars x ∧ manyOf x.1 ≤ st.length ∧ ∀ k ∈ st.take (manyOf x.1), k = partOf x.1 then some (ownOf x.1 :: st.drop (manyOf x.1)) else none
def trun (wide vars : Int) : List PNode → List Int → Option (List Int)
  | [], st => some st
  | x :: t, st => match tstep wide vars st x with | some st => trun wide vars t st | none => none
/-- The kind of a good term, else 0. -/
def kindT (wide vars : Int) (t : List PNode) : Int :=
  if wideOk wide ∧ (1 ≤ vars ∧ vars ≤ 4) ∧ (1 ≤ t.length ∧ t.length ≤ 48) then (match trun wide vars t [] with | some [k] => k | _ => 0) else 0
theorem trun_app (wide vars : Int) : ∀ (t u : List PNode) (st : List Int), trun wide vars (t ++ u) st = (trun wide vars t st).bind (trun wide vars u)
  | [], u, st => rfl
  | x :: t, u, st => by
    simp only [List.cons_append, trun]
    cases tstep wide vars st x with
    | none => rfl
    | some s => exact trun_app wide vars t u s
theorem own_pos {op : Int} (h : ownOf op ≠ 0) : ownOf op = 1 ∨ ownOf op = 2 := by
  unfold ownOf at *
  repeat' split
  all_goals first | (left; rfl) | (right; rfl) | skip
  all_goals simp_all
theorem tstep_some {wide vars : Int} {st st' : List Int} {x : PNode} (h : tstep wide vars st x = some st') : ownOf x.1 ≠ 0 ∧ leafOk wide vars x ∧ manyOf x.1 ≤ st.length ∧ (∀ k ∈ st.take (manyOf x.1), k = partOf x.1) ∧ st' = ownOf x.1 :: st.drop (manyOf x.1) := by
  unfold tstep at h
  split at h
  · rename_i hc
    injection h with h
    exact ⟨hc.1, hc.2.1, hc.2.2.1, hc.2.2.2, h.symm⟩
  · cases h
/-- One node: the values on the stack, the top first. -/
def estep (w : Nat) (s : List Nat) (st : List Nat) (x : PNode) : List Nat :=
  if x.1 = 1 ∨ x.1 = 20 then x.2 :: st else if x.1 = 2 then (s[x.2]?).getD 0 :: st
  else if x.1 = 13 then (match st with | a :: r => (2 ^ w - 1 - a) :: r | [] => []) else if x.1 = 19 then (match st with | a :: r => (1 - a) :: r | [] => [])
  else match st with | b :: a :: r => doOp w x.1 a b :: r | _ => []
def erun (w : Nat) (s : List Nat) : List PNode → List Nat → List Nat
  | [], st => st
  | x :: t, st => erun w s t (estep w s st x)
theorem erun_app (w : Nat) (s : List Nat) : ∀ (t u : List PNode) (st : List Nat), erun w s (t ++ u) st = erun w s u (erun w s t st)
  | [], u, st => rfl
  | x :: t, u, st => by simp only [List.cons_append, erun]; exact erun_app w s t u _
def evalT (w : Nat) (t : List PNode) (s : List Nat) : Nat := (erun w s t []).headD 0
/-- A value fits its kind. -/
def fitsK (w : Nat) (k : Int) (v : Nat) : Prop := (k = 1 ∧ v < 2 ^ w) ∨ (k = 2 ∧ v ≤ 1)
theorem fitsK_lt {w : Nat} {k : Int} {v : Nat} (h1 : 1 ≤ w) (h : fitsK w k v) : v < 2 ^ w := by
  have : 2 ^ 1 ≤ 2 ^ w := Nat.pow_le_pow_right (by omega) h1
  rcases h with ⟨_, h⟩ | ⟨_, h⟩ <;> omega
def fitsL (w : Nat) : List Int → List Nat → Prop
  | [], [] => True
  | k :: ks, v :: vs => fitsK w k v ∧ fitsL w ks vs
  | _, _ => False
theorem fitsL_len {w : Nat} : ∀ {ks : List Int} {vs : List Nat}, fitsL w ks vs → ks.length = vs.length
  | [], [], _ => rfl
  | k :: ks, v :: vs, h => by simp [fitsL_len h.2]
  | [], _ :: _, h => h.elim
  | _ :: _, [], h => h.elim
theorem and_le1 {a b : Nat} (ha : a ≤ 1) (hb : b ≤ 1) : a &&& b ≤ 1 := Nat.le_trans Nat.and_le_left ha
theorem or_le1 {a b : Nat} (ha : a ≤ 1) (hb : b ≤ 1) : a ||| b ≤ 1 := by
  have := or_lt (k := 1) (a := a) (b := b) (by omega) (by omega)
  omega
/-- An op with its stack. -/
inductive OpCase (wide vars : Int) (st : List Int) (x : PNode) : List Int → Prop
  | leaf (h : x.1 = 1 ∨ x.1 = 2 ∨ x.1 = 20) : OpCase wide vars st x (ownOf x.1 :: st)
  | one (r : List Int) (hs : st = partOf x.1 :: r) (h : x.1 = 13 ∨ x.1 = 19) : OpCase wide vars st x (ownOf x.1 :: r)
  | two (r : List Int) (hs : st = partOf x.1 :: partOf x.1 :: r) (h : (3 ≤ x.1 ∧ x.1 ≤ 12) ∨ (14 ≤ x.1 ∧ x.1 ≤ 18)) : OpCase wide vars st x (ownOf x.1 :: r)
theorem op_case {wide vars : Int} {st st' : List Int} {x : PNode} (h : tstep wide vars st x = some st') : leafOk wide vars x ∧ OpCase wide vars st x st' := by
  obtain ⟨h1, h2, h3, h4, rfl⟩ := tstep_some h
  refine ⟨h2, ?_⟩
  by_cases c0 : x.1 = 1 ∨ x.1 = 2 ∨ x.1 = 20
  · have e : manyOf x.1 = 0 := by unfold manyOf; rw [if_pos c0]
    rw [e]; exact .leaf c0
  · by_cases c1 : x.1 = 13 ∨ x.1 = 19
    · have e : manyOf x.1 = 1 := by unfold manyOf; rw [if_neg c0, if_pos c1]
      rw [e] at h3 h4 ⊢
      match st, h3, h4 with
      | a :: r, _, h4 =>
        have := h4 a (by simp)
        exact .one r (by rw [this]) c1
    · by_cases c2 : (3 ≤ x.1 ∧ x.1 ≤ 12) ∨ (14 ≤ x.1 ∧ x.1 ≤ 16) ∨ x.1 = 17 ∨ x.1 = 18
      · have e : manyOf x.1 = 2 := by unfold manyOf; rw [if_neg c0, if_neg c1, if_pos c2]
        rw [e] at h3 h4 ⊢
        match st, h3, h4 with
        | [_], h3, _ => simp at h3
        | a :: b :: r, _, h4 =>
          have ha := h4 a (by simp)
          have hb := h4 b (by simp)
          exact .two r (by rw [ha, hb]) (by omega)
      · exfalso
        apply h1
        unfold ownOf
        repeat (rw [if_neg (by omega)])
theorem step_fits {w : Nat} {vars : Nat} {s : List Nat} (h1 : 1 ≤ w) (hs : s.length = vars) (hw : ∀ v ∈ s, v < 2 ^ w) {ks ks' : List Int} {vs : List Nat} {x : PNode} (hf : fitsL w ks vs) (h : tstep (w : Int) (vars : Int) ks x = some ks') : fitsL w ks' (estep w s vs x) := by
  obtain ⟨hl, hc⟩ := op_case h
  cases hc with
  | leaf hc =>
    rcases hc with e | e | e
    · simp only [estep, e, true_or, if_true]
      refine ⟨.inl ⟨by simp [ownOf, e], ?_⟩, hf⟩
      unfold leafOk at hl
      rw [if_pos e] at hl
      have := hl.2
      rwa [Int.toNat_natCast] at this
    · have hl2 : x.2 < vars := by
        unfold leafOk at hl
        rw [if_neg (by omega), if_pos e] at hl
        omega
      unfold estep
      rw [if_neg (by omega), if_pos e]
      refine ⟨.inl ⟨by simp [ownOf, e], ?_⟩, hf⟩
      rw [List.getElem?_eq_getElem (by omega), Option.getD_some]
      exact hw _ (List.getElem_mem _)
    · simp only [estep, e, or_true, if_true]
      refine ⟨.inr ⟨by simp [ownOf, e], ?_⟩, hf⟩
      unfold leafOk at hl
      rwa [if_neg (by omega), if_neg (by omega), if_pos e] at hl
  | one r hst hc =>
    subst hst
    match vs, hf with
    | a :: vs, hf =>
      rcases hc with e | e
      · unfold estep
        rw [if_neg (by omega), if_neg (by omega), if_pos e]
        have hp : 0 < 2 ^ w := Nat.pow_pos (by omega)
        exact ⟨.inl ⟨by simp [ownOf, e], by omega⟩, hf.2⟩
      · unfold estep
        rw [if_neg (by omega), if_neg (by omega), if_neg (by omega), if_pos e]
        exact ⟨.inr ⟨by simp [ownOf, e], by omega⟩, hf.2⟩
  | two r hst hc =>
    subst hst
    match vs, hf with
    | b :: a :: vs, hf =>
      have hb := fitsK_lt h1 hf.1
      have ha := fitsK_lt h1 hf.2.1
      unfold estep
      rw [if_neg (by omega), if_neg (by omega), if_neg (by omega), if_neg (by omega)]
      refine ⟨?_, hf.2.2⟩
      by_cases c1 : 3 ≤ x.1 ∧ x.1 ≤ 12
      · refine .inl ⟨?_, doOp_lt h1 ha hb⟩
        unfold ownOf
        rw [if_neg (by omega), if_neg (by omega)]
        by_cases e13 : x.1 = 13
        · omega
        · rw [if_neg e13, if_neg (by omega), if_pos c1]
      · refine .inr ⟨?_, ?_⟩
        · unfold ownOf
          rw [if_neg (by omega), if_neg (by omega), if_neg (by omega), if_neg (by omega), if_neg c1]
          by_cases c2 : 14 ≤ x.1 ∧ x.1 ≤ 16
          · rw [if_pos c2]
          · rw [if_neg c2, if_pos (by omega)]
        · have le1 : ∀ (p : Prop) [Decidable p], (if p then 1 else 0) ≤ 1 := fun p _ => by split <;> omega
          rcases (show x.1 = 14 ∨ x.1 = 15 ∨ x.1 = 16 ∨ x.1 = 17 ∨ x.1 = 18 by omega) with e | e | e | e | e
          · simp [doOp, e]; exact le1 _
          · simp [doOp, e]; exact le1 _
          · simp [doOp, e]; exact le1 _
          · have hp : partOf x.1 = 2 := by simp [partOf, e]
            have h5 := hf.1
            have h6 := hf.2.1
            rw [hp] at h5 h6
            simp [doOp, e]
            exact and_le1 (by rcases h6 with ⟨h, _⟩ | ⟨_, h⟩ <;> omega) (by rcases h5 with ⟨h, _⟩ | ⟨_, h⟩ <;> omega)
          · have hp : partOf x.1 = 2 := by simp [partOf, e]
            have h5 := hf.1
            have h6 := hf.2.1
            rw [hp] at h5 h6
            simp [doOp, e]
            exact or_le1 (by rcases h6 with ⟨h, _⟩ | ⟨_, h⟩ <;> omega) (by rcases h5 with ⟨h, _⟩ | ⟨_, h⟩ <;> omega)
/-- A good term's run, node by node: the kinds and the values. -/
theorem run_fits {w vars : Nat} {s : List Nat} (h1 : 1 ≤ w) (hs : s.length = vars) (hw : ∀ v ∈ s, v < 2 ^ w) (t : List PNode) : ∀ (ks ks' : List Int) (vs : List Nat), fitsL w ks vs → trun (w : Int) (vars : Int) t ks = some ks' → fitsL w ks' (erun w s t vs) := by
  induction t with
  | nil => intro ks ks' vs hf h; simp only [trun, Option.some.injEq] at h; subst h; exact hf
  | cons x t ih =>
    intro ks ks' vs hf h
    simp only [trun] at h
    split at h
    · rename_i st he
      exact ih _ _ _ (step_fits h1 hs hw hf he) h
    · cases h
end Go.Proofs.Yteegphdelekdaaa

set_option linter.unusedVariables false
set_option linter.unusedSimpArgs false
namespace Go.Proofs.Yteegphdelekdaaa
open Go.Abs Go.IntWalk
set_option maxRecDepth 100000
attribute [local go_sem] eI eU eNs eN cN eChs eCh cCh eCos eCo cCo eP take_map
theorem trun_pos {wide vars : Int} : ∀ {t : List PNode} {st st' : List Int}, (∀ k ∈ st, k ≠ 0) → trun wide vars t st = some st' → ∀ k ∈ st', k ≠ 0
  | [], st, st', h, he => by simp only [trun, Option.some.injEq] at he; subst he; exact h
  | x :: t, st, st', h, he => by
    simp only [trun] at he
    split at he
    · rename_i s hs
      refine trun_pos ?_ he
      obtain ⟨h1, h2, h3, h4, rfl⟩ := tstep_some hs
      intro k hk
      rcases List.mem_cons.1 hk with rfl | hk
      · exact h1
      · exact h k (List.mem_of_mem_drop hk)
    · cases he
theorem ops_a {op : Int} (h : op = 1 ∨ op = 2) : manyOf op = 0 ∧ ownOf op = 1 := by rcases h with rfl | rfl <;> exact ⟨rfl, rfl⟩
theorem ops_b {op : Int} (h : 3 ≤ op ∧ op ≤ 12) : manyOf op = 2 ∧ partOf op = 1 ∧ ownOf op = 1 := by
  refine ⟨?_, ?_, ?_⟩
  · unfold manyOf; rw [if_neg (by omega), if_neg (by omega), if_pos (by omega)]
  · unfold partOf; rw [if_neg (by omega), if_neg (by omega), if_pos (by omega)]
  · unfold ownOf; rw [if_neg (by omega), if_neg (by omega), if_neg (by omega), if_neg (by omega), if_pos (by omega)]
theorem ops_c {op : Int} (h : 14 ≤ op ∧ op ≤ 16) : manyOf op = 2 ∧ partOf op = 1 ∧ ownOf op = 2 := by
  refine ⟨?_, ?_, ?_⟩
  · unfold manyOf; rw [if_neg (by omega), if_neg (by omega), if_pos (by omega)]
  · unfold partOf; rw [if_neg (by omega), if_neg (by omega), if_pos (by omega)]
  · unfold ownOf; rw [if_neg (by omega), if_neg (by omega), if_neg (by omega), if_neg (by omega), if_neg (by omega), if_pos (by omega)]
theorem ops_d {op : Int} (h : ¬ (1 ≤ op ∧ op ≤ 20)) : manyOf op = 0 ∧ ownOf op = 0 := by
  refine ⟨?_, ?_⟩
  · unfold manyOf; rw [if_neg (by omega), if_neg (by omega), if_neg (by omega)]
  · unfold ownOf; rw [if_neg (by omega), if_neg (by omega), if_neg (by omega), if_neg (by omega), if_neg (by omega), if_neg (by omega), if_neg (by omega)]
theorem c_opsI {op : Int} {H : Heap} {K : AV → Heap → Prop} (hK : ∀ p, (manyOf op ≠ 0 → p = partOf op) → K (.tup [I64 (manyOf op), I64 p, I64 (ownOf op)]) H) : ACall Try.prog 89 [I64 op] H K := by
  refine ACall.pure (R := fun r _ => ∃ p, (manyOf op ≠ 0 → p = partOf op) ∧ r = .tup [I64 (manyOf op), I64 p, I64 (ownOf op)]) rfl ?_ fun r H' h => by obtain ⟨p, hp, rfl⟩ := h; exact ⟨_, .cl rfl, rfl, hK p hp⟩
  refine call89 (by simp) ?_
  simp only [Try.results89, Try.ntmps89, Try.f89, Option.getD_some, pl89]
  by_cases q1 : op = 1
  · subst q1
    simp only [go_sem]
    exact ⟨0, fun h => by first | rfl | exact absurd rfl h, rfl⟩
  by_cases q2 : op = 2
  · subst q2
    simp only [go_sem]
    exact ⟨0, fun h => by first | rfl | exact absurd rfl h, rfl⟩
  by_cases q20 : op = 20
  · subst q20
    simp only [go_sem]
    exact ⟨0, fun h => by first | rfl | exact absurd rfl h, rfl⟩
  by_cases q13 : op = 13
  · subst q13
    simp only [go_sem]
    exact ⟨1, fun h => by first | rfl | exact absurd rfl h, rfl⟩
  by_cases q19 : op = 19
  · subst q19
    simp only [go_sem]
    exact ⟨2, fun h => by first | rfl | exact absurd rfl h, rfl⟩
  by_cases q17 : op = 17
  · subst q17
    simp only [go_sem]
    exact ⟨2, fun h => by first | rfl | exact absurd rfl h, rfl⟩
  by_cases q18 : op = 18
  · subst q18
    simp only [go_sem]
    exact ⟨2, fun h => by first | rfl | exact absurd rfl h, rfl⟩
  by_cases r : 3 ≤ op
  · by_cases r2 : op ≤ 12
    · obtain ⟨e1, e2, e3⟩ := ops_b ⟨r, r2⟩
      simp only [go_sem, q1, q2, q20, q13, q19, q17, q18, r, r2]
      exact ⟨1, fun _ => e2.symm, by rw [e1, e3]; rfl⟩
    · by_cases r3 : 14 ≤ op
      · by_cases r4 : op ≤ 16
        · obtain ⟨e1, e2, e3⟩ := ops_c ⟨r3, r4⟩
          simp only [go_sem, q1, q2, q20, q13, q19, q17, q18, r, r2, r3, r4]
          exact ⟨1, fun _ => e2.symm, by rw [e1, e3]; rfl⟩
        · obtain ⟨e1, e3⟩ := ops_d (op := op) (by omega)
          simp only [go_sem, q1, q2, q20, q13, q19, q17, q18, r, r2, r3, r4]
          exact ⟨0, fun h => absurd e1 h, by rw [e1, e3]; rfl⟩
      · omega
  · have r3 : ¬ 14 ≤ op := by omega
    obtain ⟨e1, e3⟩ := ops_d (op := op) (by omega)
    simp only [go_sem, q1, q2, q20, q13, q19, q17, q18, r, r3]
    exact ⟨0, fun h => absurd e1 h, by rw [e1, e3]; rfl⟩
theorem c_opsS {op : Int} {H : Heap} {K : AV → Heap → Prop} (hK : ∀ p, (manyOf op ≠ 0 → p = partOf op) → K (.tup [I64 (manyOf op), I64 p, I64 (ownOf op)]) H) : ACall Try.prog 78 [I64 op] H K := by
  refine ACall.pure (R := fun r _ => ∃ p, (manyOf op ≠ 0 → p = partOf op) ∧ r = .tup [I64 (manyOf op), I64 p, I64 (ownOf op)]) rfl ?_ fun r H' h => by obtain ⟨p, hp, rfl⟩ := h; exact ⟨_, .cl rfl, rfl, hK p hp⟩
  refine call78 (by simp) ?_
  simp only [Try.results78, Try.ntmps78, Try.f78, Option.getD_some, pl78]
  by_cases q1 : op = 1
  · subst q1
    simp only [go_sem]
    exact ⟨1, fun h => by first | rfl | exact absurd rfl h, rfl⟩
  by_cases q2 : op = 2
  · subst q2
    simp only [go_sem]
    exact ⟨1, fun h => by first | rfl | exact absurd rfl h, rfl⟩
  by_cases q20 : op = 20
  · subst q20
    simp only [go_sem]
    exact ⟨2, fun h => by first | rfl | exact absurd rfl h, rfl⟩
  by_cases q13 : op = 13
  · subst q13
    simp only [go_sem]
    exact ⟨1, fun h => by first | rfl | exact absurd rfl h, rfl⟩
  by_cases q19 : op = 19
  · subst q19
    simp only [go_sem]
    exact ⟨2, fun h => by first | rfl | exact absurd rfl h, rfl⟩
  simp only [go_sem, q1, q2, q20, q13, q19]
  refine c_in ?_
  by_cases r : 3 ≤ op ∧ op ≤ 12
  · obtain ⟨e1, e2, e3⟩ := ops_b r
    simp only [go_sem, r]
    exact ⟨1, fun _ => e2.symm, by rw [e1, e3]; rfl⟩
  · simp only [go_sem, r]
    refine c_in ?_
    by_cases r2 : 14 ≤ op ∧ op ≤ 16
    · obtain ⟨e1, e2, e3⟩ := ops_c r2
      simp only [go_sem, r2]
      exact ⟨1, fun _ => e2.symm, by rw [e1, e3]; rfl⟩
    · by_cases q17 : op = 17
      · subst q17
        simp only [go_sem, r2]
        exact ⟨2, fun h => rfl, rfl⟩
      · by_cases q18 : op = 18
        · subst q18
          simp only [go_sem, r2]
          exact ⟨2, fun h => rfl, rfl⟩
        · obtain ⟨e1, e3⟩ := ops_d (op := op) (by omega)
          simp only [go_sem, r2, q17, q18]
          exact ⟨0, fun h => absurd e1 h, by rw [e1, e3]; rfl⟩
theorem c_leafI {wide vars : Int} {x : PNode} (hv : 1 ≤ vars ∧ vars ≤ 4) (hx : x.2 < 18446744073709551616) {H : Heap} {K : AV → Heap → Prop} (hK : K (.bool (decide (leafOk wide vars x))) H) : ACall Try.prog 90 [I64 wide, I64 vars, eN x] H K := by
  obtain ⟨op, n⟩ := x
  simp only at hx
  refine pureC rfl rfl ?_ hK
  refine call90 (by simp) ?_
  simp only [Try.results90, Try.ntmps90, Try.f90, Option.getD_some, pl90]
  have hw : IntKind.wrap .u64 vars = vars := u64_in _ (by omega)
  by_cases q1 : op = 1
  · subst q1
    simp only [go_sem]
    refine c_gwI hx ?_
    simp only [go_sem]
    exact bE (by simp [leafOk])
  · by_cases q2 : op = 2
    · subst q2
      simp only [go_sem, hw]
      exact bE (by simp [leafOk])
    · by_cases q3 : op = 20
      · subst q3
        simp only [go_sem]
        exact bE (by simp [leafOk]; omega)
      · simp only [go_sem, q1, q2, q3]
        exact bE (by simp [leafOk, q1, q2, q3])
theorem c_leafS {wide vars : Int} {x : PNode} (hv : 1 ≤ vars ∧ vars ≤ 4) (hx : x.2 < 18446744073709551616) {H : Heap} {K : AV → Heap → Prop} (hK : K (.bool (decide (leafOk wide vars x))) H) : ACall Try.prog 79 [I64 wide, I64 vars, eN x] H K := by
  obtain ⟨op, n⟩ := x
  simp only at hx
  refine pureC rfl rfl ?_ hK
  refine call79 (by simp) ?_
  simp only [Try.results79, Try.ntmps79, Try.f79, Option.getD_some, pl79]
  have hw : IntKind.wrap .u64 vars = vars := u64_in _ (by omega)
  by_cases q1 : op = 1
  · subst q1
    simp only [go_sem]
    refine c_gwS hx ?_
    simp only [go_sem]
    exact bE (by simp [leafOk])
  · by_cases q2 : op = 2
    · subst q2
      simp only [go_sem, hw]
      exact bE (by simp [leafOk])
    · by_cases q3 : op = 20
      · subst q3
        simp only [go_sem]
        exact bE (by simp [leafOk]; omega)
      · simp only [go_sem, q1, q2, q3]
        exact bE (by simp [leafOk, q1, q2, q3])
theorem c_varsI {n : Int} {H : Heap} {K : AV → Heap → Prop} (hK : K (.bool (decide (1 ≤ n ∧ n ≤ 4))) H) : ACall Try.prog 49 [I64 n] H K := by
  refine pureC rfl rfl ?_ hK
  refine call49 (by simp) ?_
  simp only [Try.results49, Try.ntmps49, Try.f49, Option.getD_some, pl49]
  by_cases h : 1 ≤ n
  · simp only [go_sem, h, true_and]
  · simp only [go_sem, h, false_and]
theorem c_neq {x n : Int} {id v T : Nat} {H : Heap} {K : AV → Heap → Prop} (hH : H id = .cells v T 1 [I64 n]) (hK : K (.bool (!decide (x = n))) H) : ACall Try.prog 91 [I64 x, .ptr id v 0] H K := by
  refine ACall.with1 (xs := [I64 x]) (R := fun r H' => r = .bool (!decide (x = n)) ∧ H' 1000000 = .cells v T 1 [I64 n]) (.ptr 1000000 v 0) rfl hH rfl rfl ?_ ?_
  · refine call91 (by simp) ?_
    simp only [Try.results91, Try.ntmps91, Try.f91, Option.getD_some, pl91]
    simp only [go_sem]
  · rintro r H' ⟨rfl, h⟩
    exact ⟨h, _, .cl rfl, rfl, hK⟩
theorem c_idxN {l : List Int} {n : Int} {id v T : Nat} {H : Heap} {K : AV → Heap → Prop} (hl : l.length ≤ 1000000000) (hH : H id = .cells v T 1 [I64 n]) (hK : ∀ r, (0 ≤ r ↔ ¬ ∀ x ∈ l, x = n) → K (I64 r) H) : ACall Try.prog 42 [eI l, .fn 91 [.ptr id v 0]] H K := by
  refine ACall.with1 (xs := [eI l]) (R := fun r H' => H' 1000000 = .cells v T 1 [I64 n] ∧ ∃ q, r = I64 q ∧ (0 ≤ q ↔ ¬ ∀ x ∈ l, x = n)) (.fn 91 [.ptr 1000000 v 0]) rfl hH rfl rfl ?_ ?_
  · refine call42 (by simp) ?_
    simp only [Try.results42, Try.ntmps42, Try.f42, Option.getD_some, pl42]
    simp only [go_sem]
    refine ALoop.intro (pl := pl42) (fun k env H => ∃ i : Nat, env 0 = eI l ∧ env 1 = .fn 91 [.ptr 1000000 v 0] ∧ env 7 = I64 l.length ∧ env 8 = I64 i ∧ H 1000000 = .cells v T 1 [I64 n] ∧ i + k = l.length ∧ ∀ x ∈ l.take i, x = n) l.length (by kernel_rfl) ?_ ?_
    · simp only [go_sem]
      exact ⟨0, by simp⟩
    · rintro k env H ⟨i, e0, e1, e2, e3, b1, hk, ht⟩
      by_cases hz : (i : Int) < l.length
      · obtain ⟨x, hx⟩ := get_some (l := l) (i := i) (by omega)
        have hw : IntKind.wrap .i64 ((i : Int) + 1) = i + 1 := i64_in _ (by omega)
        have h0 : (0 : Int) ≤ i := by omega
        simp only [go_sem, e0, e1, e2, e3, hz, hx, h0]
        refine c_neq b1 ?_
        by_cases hp : x = n
        · simp only [go_sem, e0, e1, e2, e3, hp, hw]
          refine ⟨k - 1, by omega, i + 1, rfl, b1, by omega, ?_⟩
          intro y hy
          rw [take_one hx] at hy
          rcases List.mem_append.1 hy with hy | hy
          · exact ht y hy
          · rw [List.mem_singleton.1 hy]; exact hp
        · simp only [go_sem, hp]
          exact ⟨b1, _, rfl, by simp only [h0, true_iff]; exact fun h => hp (h x (List.mem_of_getElem? hx))⟩
      · simp only [go_sem, e2, e3, hz]
        rw [List.take_of_length_le (by omega)] at ht
        exact ⟨b1, _, rfl, ⟨fun h => absurd h (by omega), fun h => absurd ht h⟩⟩
  · rintro r H' ⟨h, q, rfl, hq⟩
    exact ⟨h, _, .cl rfl, rfl, hK q hq⟩
theorem k_contN {l : List Int} {n : Int} {v T : Nat} (hl : l.length ≤ 1000000000) : ACall Try.prog 22 [eI l, .fn 91 [.ptr 1000000 v 0]] (hp [.cells v T 1 [I64 n]]) (fun r H' => r = .bool (decide (¬ ∀ x ∈ l, x = n)) ∧ H' 1000000 = .cells v T 1 [I64 n]) := by
  refine call22 (by simp) ?_
  simp only [Try.results22, Try.ntmps22, Try.f22, Option.getD_some, pl22]
  simp only [go_sem]
  refine c_idxN (l := l) (n := n) (id := 1000000) (v := v) (T := T) hl (by simp only [go_sem]) fun r hr => ?_
  simp only [go_sem]
  exact bE hr
/-- Whether all of a piece of a stack of ours are of one kind. -/
theorem c_contN {a : AV} {l : List Int} {n : Int} {id v T : Nat} {H : Heap} {K : AV → Heap → Prop} (hl : l.length ≤ 1000000000) (hH : H id = .cells v T 1 [I64 n]) (hv : View H (inL 1) (rhoL [id]) (fun j => ![id].contains j) a (eI l)) (hK : K (.bool (decide (¬ ∀ x ∈ l, x = n))) H) : ACall Try.prog 22 [a, .fn 91 [.ptr id v 0]] H K := by
  refine ACall.handL [id] [.cells v T 1 [I64 n]] (by simp) ⟨hH, trivial⟩ rfl (.cons _ _ _ _ hv (.cons _ _ _ _ (.ren (.fn 91 [.ptr 1000000 v 0]) rfl) .nil)) (k_contN hl) ?_
  rintro r' H' ⟨rfl, h⟩
  refine ⟨[_], ⟨h, trivial⟩, rfl, rfl, rfl, ?_⟩
  simp only [lays]
  have e : upd H id (Blk.ren (rhoL [id]) (.cells v T 1 [I64 n])) = H := (congrArg (upd H id) (show Blk.ren (rhoL [id]) (.cells v T 1 [I64 n]) = H id from hH.symm)).trans (upd_self H id)
  exact Eq.mpr (congrArg (K _) e) hK
end Go.Proofs.Yteegphdelekdaaa

set_option linter.unusedVariables false
set_option linter.unusedSimpArgs false
namespace Go.Proofs.Yteegphdelekdaaa
open Go.Abs Go.IntWalk
set_option maxRecDepth 100000
attribute [local go_sem] eI eU eNs eN cN eChs eCh cCh eCos eCo cCo eP take_map
def wfT (t : List PNode) : Prop := ∀ x ∈ t, x.2 < 18446744073709551616
theorem many_le (op : Int) : manyOf op ≤ 2 := by
  unfold manyOf
  split
  · omega
  · split
    · omega
    · split <;> omega
theorem trun_step {wide vars : Int} {t : List PNode} {i : Nat} {x : PNode} {st : List Int} (hx : t[i]? = some x) (h : trun wide vars (t.take i) [] = some st) : trun wide vars (t.take (i + 1)) [] = tstep wide vars st x := by
  rw [take_one hx, trun_app, h, Option.bind_some, trun]
  cases tstep wide vars st x <;> rfl
theorem trun_none {wide vars : Int} {t : List PNode} {i : Nat} (h : trun wide vars (t.take i) [] = none) : trun wide vars t [] = none := by
  have := trun_app wide vars (t.take i) (t.drop i) []
  rw [List.take_append_drop, h] at this
  exact this
theorem tstep_none {wide vars : Int} {st : List Int} {x : PNode} (h : ¬ (ownOf x.1 ≠ 0 ∧ leafOk wide vars x ∧ manyOf x.1 ≤ st.length ∧ ∀ k ∈ st.take (manyOf x.1), k = partOf x.1)) : tstep wide vars st x = none := if_neg h
theorem kind_zero {wide vars : Int} {t : List PNode} (h : trun wide vars t [] = none) : kindT wide vars t = 0 := by
  unfold kindT; rw [h]; split <;> rfl
theorem rev_drop {l : List Int} {m : Nat} {p : Int} (h : m ≤ l.length) : (∀ x ∈ l.reverse.drop (l.length - m), x = p) ↔ ∀ x ∈ l.take m, x = p := by
  rw [List.drop_reverse, show l.length - (l.length - m) = m by omega]
  simp
theorem rev_take {l : List Int} {m : Nat} (h : m ≤ l.length) : l.reverse.take (l.length - m) = (l.drop m).reverse := by
  rw [List.take_reverse, show l.length - (l.length - m) = m by omega]
theorem frzDrop {H : Heap} {β : Nat → Bool} {id ver T r : Nat} {L : List Int} (hr : r ≤ L.length) (hβ : β id = true) (h : H id = .cells ver T 1 (L.map I64)) : FRes H β anyAV (.ref id ver r (L.length - r)) (eI (L.drop r)) := by
  have := FRes.slice (β := β) (pre := (L.take r).map I64) (post := []) (es := (L.drop r).map I64) (off := r) (sz := 1) hβ h (by rw [flat_map1 (f := I64) (fun _ => rfl), List.append_nil, ← List.map_append, List.take_append_drop]) (by simp; omega) (fun e he => by obtain ⟨x, _, rfl⟩ := List.mem_map.1 he; rfl) (fun e he y hy => by obtain ⟨x, _, rfl⟩ := List.mem_map.1 he; rw [List.mem_singleton.1 hy]; rfl)
  simpa [eI] using this
theorem c_goodT {wide vars : Int} {t : List PNode} (ht : wfT t) (hl : t.length ≤ 1000000000) {H : Heap} {K : AV → Heap → Prop} (hK : K (.bool (decide (kindT wide vars t ≠ 0))) H) : ACall Try.prog 80 [I64 wide, I64 vars, eNs t] H K := by
  refine pureC rfl rfl ?_ hK
  refine call80 (by simp) ?_
  simp only [Try.results80, Try.ntmps80, Try.f80, Option.getD_some, pl80]
  simp only [go_sem]
  have bad : ¬ (wideOk wide ∧ (1 ≤ vars ∧ vars ≤ 4) ∧ (1 ≤ t.length ∧ t.length ≤ 48)) → AV.bool false = AV.bool (decide (kindT wide vars t ≠ 0)) := fun h => bF fun e => e (by unfold kindT; rw [if_neg h])
  have bad2 : trun wide vars t [] = none → AV.bool false = AV.bool (decide (kindT wide vars t ≠ 0)) := fun h => bF fun e => e (kind_zero h)
  refine c_wideI ?_
  by_cases h1 : wideOk wide
  · simp only [go_sem, h1]
    refine c_varsI ?_
    by_cases h2 : 1 ≤ vars ∧ vars ≤ 4
    · by_cases h3 : (t.length : Int) < 1
      · simp only [go_sem, h2, h3]
        exact bad fun h => by omega
      · by_cases h4 : 48 < (t.length : Int)
        · simp only [go_sem, h2, h3, h4]
          exact bad fun h => by omega
        · simp only [go_sem, h2, h3, h4]
          refine ALoop.intro (pl := pl80) (fun k env H => ∃ (i sv : Nat) (ks : List Int), env 0 = I64 wide ∧ env 1 = I64 vars ∧ env 7 = .ref 32 sv 0 ks.reverse.length ∧ env 33 = eNs t ∧ env 34 = I64 t.length ∧ env 35 = I64 i ∧ H 32 = .cells sv 3 1 (ks.reverse.map I64) ∧ i + k = t.length ∧ ks.length ≤ i ∧ trun wide vars (t.take i) [] = some ks) t.length (by kernel_rfl) ?_ ?_
          · simp only [go_sem]
            exact ⟨0, _, [], rfl, rfl, rfl, by omega, by simp, rfl⟩
          · rintro k env H ⟨i, sv, ks, e0, e1, e7, e33, e34, e35, b32, hk, hks, hr⟩
            by_cases hz : (i : Int) < t.length
            · obtain ⟨x, hx⟩ := get_some (l := t) (i := i) (by omega)
              have h0 : (0 : Int) ≤ i := by omega
              have hw : IntKind.wrap .i64 ((i : Int) + 1) = i + 1 := i64_in _ (by omega)
              have hxw := ht x (List.mem_of_getElem? hx)
              have hml := many_le x.1
              have hstep := trun_step hx hr
              have nope : ¬ (ownOf x.1 ≠ 0 ∧ leafOk wide vars x ∧ manyOf x.1 ≤ ks.length ∧ ∀ k ∈ ks.take (manyOf x.1), k = partOf x.1) → AV.bool false = AV.bool (decide (kindT wide vars t ≠ 0)) := fun h => bad2 (trun_none (by rw [hstep]; exact tstep_none h))
              simp only [go_sem, pl80, e0, e1, e7, e33, e34, e35, b32, hz, hx, h0]
              refine c_opsI (op := x.1) fun p hp => ?_
              have hw2 : IntKind.wrap .i64 ((ks.length : Int) - (manyOf x.1 : Nat)) = ks.length - (manyOf x.1 : Nat) := i64_in _ (by omega)
              simp only [go_sem, pl80, e0, e1, e7, e33, e34, e35, b32, hz, hx, h0, List.length_reverse, hw2]
              by_cases c1 : ownOf x.1 = 0
              · simp only [go_sem, c1]
                exact nope fun h => h.1 c1
              · simp only [go_sem, c1, e0, e1, e7, b32]
                refine c_leafI (x := x) h2 hxw ?_
                by_cases c2 : leafOk wide vars x
                · by_cases c3 : (ks.length : Int) - (manyOf x.1 : Nat) < 0
                  · simp only [go_sem, c1, c2, c3, e0, e1, e7, b32, hw2, List.length_reverse]
                    exact nope fun h => by have := h.2.2.1; omega
                  · have c3' : (0 : Int) ≤ (ks.length : Int) - (manyOf x.1 : Nat) := by omega
                    have tn : ((ks.length : Int) - (manyOf x.1 : Nat)).toNat = ks.length - manyOf x.1 := by omega
                    simp only [go_sem, c1, c2, c3, e0, e1, e7, b32, hw2, List.length_reverse, c3', tn]
                    have c3n : manyOf x.1 ≤ ks.length := by omega
                    refine ⟨by omega, ?_⟩
                    have hfr := frzDrop (H := upd (upd (upd (upd H 9 (Blk.cells ((H 9).ver + 1) 71 1 [AV.int IntKind.i64 0, AV.int IntKind.u64 0])) 9 (Blk.cells ((H 9).ver + 1) 71 1 [I64 x.1, U64 x.2])) 11 (Blk.cells ((H 11).ver + 1) 3 1 [AV.int IntKind.i64 0])) 11 (Blk.cells ((H 11).ver + 1) 3 1 [AV.int IntKind.i64 p])) (β := fun j => ![11].contains j) (id := 32) (ver := sv) (T := 3) (r := ks.length - manyOf x.1) (L := ks.reverse) (by rw [List.length_reverse]; omega) rfl (by simp only [go_sem, b32])
                    rw [List.length_reverse] at hfr
                    refine c_contN (l := ks.reverse.drop (ks.length - manyOf x.1)) (n := p) (id := 11) (T := 3) (by rw [List.length_drop, List.length_reverse]; omega) (by simp only [go_sem]) (.frz _ _ hfr) ?_
                    have hall : (∀ y ∈ ks.reverse.drop (ks.length - manyOf x.1), y = p) ↔ ∀ y ∈ ks.take (manyOf x.1), y = partOf x.1 := by
                      rw [rev_drop c3n]
                      rcases Nat.eq_zero_or_pos (manyOf x.1) with h | h
                      · rw [h]; simp
                      · rw [hp (by omega)]
                    by_cases c4 : ∀ y ∈ ks.reverse.drop (ks.length - manyOf x.1), y = p
                    · have st : tstep wide vars ks x = some (ownOf x.1 :: ks.drop (manyOf x.1)) := if_pos ⟨c1, c2, c3n, hall.1 c4⟩
                      have hdec : decide (¬ ∀ y ∈ ks.reverse.drop (ks.length - manyOf x.1), y = p) = false := decide_eq_false (fun h => h c4)
                      simp only [go_sem, pl80, e0, e1, e7, e33, e34, e35, b32, hw, hw2, c3', tn, hdec, List.length_reverse]
                      refine ⟨by omega, by omega, by omega, k - 1, by omega, i + 1, sv + 1, ownOf x.1 :: ks.drop (manyOf x.1), ?_, rfl, ?_, by omega, ?_, by rw [hstep, st]⟩
                      · congr 1
                        rw [List.length_cons, List.length_drop]
                        omega
                      · congr 1
                        rw [Nat.sub_zero, ← List.map_take, rev_take c3n, List.reverse_cons, List.map_append]
                        rfl
                      · rw [List.length_cons, List.length_drop]; omega
                    · have hdec : decide (¬ ∀ y ∈ ks.reverse.drop (ks.length - manyOf x.1), y = p) = true := decide_eq_true c4
                      simp only [go_sem, hdec]
                      exact nope fun h => c4 (hall.2 h.2.2.2)
                · simp only [go_sem, c1, c2]
                  exact nope fun h => c2 h.2.1
            · simp only [go_sem, pl80, e0, e1, e7, e33, e34, e35, b32, hz]
              rw [List.take_of_length_le (by omega)] at hr
              refine bE ?_
              unfold kindT
              rw [if_pos ⟨h1, h2, by omega⟩, hr]
              have hpos := trun_pos (by simp) hr
              match ks, hpos with
              | [], _ => simp
              | [a], hpos => simpa using hpos a (by simp)
              | a :: b :: r, _ => simp; omega
    · simp only [go_sem, h2]
      exact bad fun h => h2 h.2.1
  · simp only [go_sem, h1]
    exact bad fun h => h1 h.1
end Go.Proofs.Yteegphdelekdaaa

set_option linter.unusedVariables false
set_option linter.unusedSimpArgs false
namespace Go.Proofs.Yteegphdelekdaaa
open Go.Abs Go.IntWalk
set_option maxRecDepth 100000
attribute [local go_sem] eI eU eNs eN cN eChs eCh cCh eCos eCo cCo eP take_map
theorem kind_last {wide vars : Int} {t : List PNode} (h : kindT wide vars t ≠ 0) : ∃ x, t[t.length - 1]? = some x ∧ ownOf x.1 = kindT wide vars t := by
  unfold kindT at *
  split at h
  · rename_i hc
    split at h
    · rename_i k hk
      have hne : t ≠ [] := by intro e; subst e; simp at hc
      obtain ⟨x, hx⟩ := get_some (l := t) (i := t.length - 1) (by have := hc.2.2.1; omega)
      refine ⟨x, hx, ?_⟩
      have hsp : t = t.take (t.length - 1) ++ [x] := by
        rw [← take_one hx, show t.length - 1 + 1 = t.length by have := hc.2.2.1; omega, List.take_length]
      rw [hsp, trun_app] at hk
      cases hr : trun wide vars (t.take (t.length - 1)) [] with
      | none => rw [hr] at hk; cases hk
      | some st =>
        rw [hr, Option.bind_some] at hk
        simp only [trun] at hk
        split at hk
        · rename_i s hs
          obtain ⟨_, _, _, _, rfl⟩ := tstep_some hs
          injection hk with hk
          injection hk with hk
          rw [if_pos hc]; exact hk
        · cases hk
    · exact absurd rfl h
  · exact absurd rfl h
theorem kind_conds {wide vars : Int} {t : List PNode} (h : kindT wide vars t ≠ 0) : wideOk wide ∧ (1 ≤ vars ∧ vars ≤ 4) ∧ (1 ≤ t.length ∧ t.length ≤ 48) := by
  unfold kindT at h
  split at h
  · assumption
  · exact absurd rfl h
theorem c_kindOf {wide vars : Int} {t : List PNode} (h : kindT wide vars t ≠ 0) {H : Heap} {K : AV → Heap → Prop} (hK : K (I64 (kindT wide vars t)) H) : ACall Try.prog 81 [eNs t] H K := by
  refine pureC rfl rfl ?_ hK
  refine call81 (by simp) ?_
  simp only [Try.results81, Try.ntmps81, Try.f81, Option.getD_some, pl81]
  obtain ⟨x, hx, ho⟩ := kind_last h
  have hc := kind_conds h
  have hw : IntKind.wrap .i64 ((t.length : Int) - 1) = t.length - 1 := i64_in _ (by omega)
  have h0 : (0 : Int) ≤ (t.length : Int) - 1 := by omega
  have tn : ((t.length : Int) - 1).toNat = t.length - 1 := by omega
  simp only [go_sem, hw, h0, tn, hx]
  refine c_opsI (op := x.1) fun p _ => ?_
  simp only [go_sem, ho]
theorem c_isTerm {wide vars kind : Int} {t : List PNode} (ht : wfT t) (hl : t.length ≤ 1000000000) (hk : kind ≠ 0) {H : Heap} {K : AV → Heap → Prop} (hK : K (.bool (decide (kindT wide vars t = kind))) H) : ACall Try.prog 61 [I64 wide, I64 vars, eNs t, I64 kind] H K := by
  refine pureC rfl rfl ?_ hK
  refine call61 (by simp) ?_
  simp only [Try.results61, Try.ntmps61, Try.f61, Option.getD_some, pl61]
  simp only [go_sem]
  refine c_goodT (wide := wide) (vars := vars) ht hl ?_
  by_cases h : kindT wide vars t = 0
  · simp only [go_sem, h, not_true_eq_false]
    exact bF (p := 0 = kind) (fun e => hk e.symm)
  · simp only [go_sem, h]
    refine c_kindOf (t := t) h ?_
    simp only [go_sem]
theorem c_kindS {wide vars : Int} {t : List PNode} (ht : wfT t) (hl : t.length ≤ 1000000000) {H : Heap} {K : AV → Heap → Prop} (hK : K (I64 (kindT wide vars t)) H) : ACall Try.prog 60 [I64 wide, I64 vars, eNs t] H K := by
  refine pureC rfl rfl ?_ hK
  refine call60 (by simp) ?_
  simp only [Try.results60, Try.ntmps60, Try.f60, Option.getD_some, pl60]
  simp only [go_sem]
  have bad : ¬ (wideOk wide ∧ (1 ≤ vars ∧ vars ≤ 4) ∧ (1 ≤ t.length ∧ t.length ≤ 48)) → I64 0 = I64 (kindT wide vars t) := fun h => by unfold kindT; rw [if_neg h]
  have bad2 : trun wide vars t [] = none → I64 0 = I64 (kindT wide vars t) := fun h => by rw [kind_zero h]
  refine c_wideS ?_
  by_cases h1 : wideOk wide
  · simp only [go_sem, h1]
    refine c_in ?_
    by_cases h2 : 1 ≤ vars ∧ vars ≤ 4
    · simp only [go_sem, h2]
      refine c_in ?_
      by_cases h3 : 1 ≤ (t.length : Int) ∧ (t.length : Int) ≤ 48
      · simp only [go_sem, h3]
        refine ALoop.thaw 900 3 1 (t := 7) (by simp only [go_sem]) ?_
        refine ALoop.intro (pl := pl60) (fun k env H => ∃ (i sv : Nat) (ks : List Int), env 0 = I64 wide ∧ env 1 = I64 vars ∧ env 7 = .ref 900 sv 0 ks.length ∧ env 27 = eNs t ∧ env 28 = I64 t.length ∧ env 29 = I64 i ∧ H 900 = .cells sv 3 1 (ks.reverse.map I64) ∧ i + k = t.length ∧ ks.length ≤ i ∧ trun wide vars (t.take i) [] = some ks) t.length (by kernel_rfl) ?_ ?_
        · simp only [go_sem]
          exact ⟨0, _, [], rfl, rfl, rfl, by omega, by simp, rfl⟩
        · rintro k env H ⟨i, sv, ks, e0, e1, e7, e27, e28, e29, b9, hk, hks, hr⟩
          by_cases hz : (i : Int) < t.length
          · obtain ⟨x, hx⟩ := get_some (l := t) (i := i) (by omega)
            have h0 : (0 : Int) ≤ i := by omega
            have hw : IntKind.wrap .i64 ((i : Int) + 1) = i + 1 := i64_in _ (by omega)
            have hxw := ht x (List.mem_of_getElem? hx)
            have hml := many_le x.1
            have hstep := trun_step hx hr
            have nope : ¬ (ownOf x.1 ≠ 0 ∧ leafOk wide vars x ∧ manyOf x.1 ≤ ks.length ∧ ∀ k ∈ ks.take (manyOf x.1), k = partOf x.1) → I64 0 = I64 (kindT wide vars t) := fun h => bad2 (trun_none (by rw [hstep]; exact tstep_none h))
            simp only [go_sem, pl60, e0, e1, e7, e27, e28, e29, b9, hz, hx, h0]
            refine c_opsS (op := x.1) fun p hp => ?_
            by_cases c1 : ownOf x.1 = 0
            · simp only [go_sem, c1, e0, e1, e7, e27, e28, e29, b9]
              exact nope fun h => h.1 c1
            · simp only [go_sem, c1, e0, e1, e7, e27, e28, e29, b9]
              refine c_leafS (x := x) h2 hxw ?_
              by_cases c2 : leafOk wide vars x
              · by_cases c3 : (ks.length : Int) < (manyOf x.1 : Nat)
                · simp only [go_sem, c2, c3, e0, e1, e7, e27, e28, e29, b9]
                  exact nope fun h => by have := h.2.2.1; omega
                · simp only [go_sem, c2, c3, e0, e1, e7, e27, e28, e29, b9]
                  have c3n : manyOf x.1 ≤ ks.length := by omega
                  refine ALoop.intro (pl := pl60) (fun j env H => env 0 = I64 wide ∧ env 1 = I64 vars ∧ env 7 = .ref 900 sv 0 (ks.length - (manyOf x.1 - j)) ∧ env 10 = I64 j ∧ env 11 = I64 p ∧ env 12 = I64 (ownOf x.1) ∧ env 27 = eNs t ∧ env 28 = I64 t.length ∧ env 29 = I64 i ∧ H 900 = .cells sv 3 1 (ks.reverse.map I64) ∧ j ≤ manyOf x.1 ∧ ∀ y ∈ ks.take (manyOf x.1 - j), y = partOf x.1) (manyOf x.1) (by kernel_rfl) ?_ ?_
                  · simp only [go_sem, e0, e1, e7, e27, e28, e29, b9]
                    simp
                  · clear e0 e1 e7 e27 e28 e29 b9
                    rintro j env H ⟨e0, e1, e7, e10, e11, e12, e27, e28, e29, b9, hj, hall⟩
                    by_cases hz2 : 0 < (j : Int)
                    · obtain ⟨y, hy⟩ := get_some (l := ks) (i := manyOf x.1 - j) (by omega)
                      have hlen : (((ks.length - (manyOf x.1 - j) : Nat) : Int)) = (ks.length : Int) - ((manyOf x.1 : Nat) - j) := by omega
                      have hw1 : IntKind.wrap .i64 (((ks.length - (manyOf x.1 - j) : Nat) : Int) - 1) = ((ks.length - 1 - (manyOf x.1 - j) : Nat) : Int) := (i64_in _ (by omega)).trans (by omega)
                      have hw2 : IntKind.wrap .i64 ((j : Int) - 1) = ((j - 1 : Nat) : Int) := (i64_in _ (by omega)).trans (by omega)
                      have hy2 : ks.reverse[ks.length - 1 - (manyOf x.1 - j)]? = some y := by
                        rw [List.getElem?_reverse (by omega), show ks.length - 1 - (ks.length - 1 - (manyOf x.1 - j)) = manyOf x.1 - j by omega, hy]
                      have q0 : (0 : Int) ≤ ((ks.length - 1 - (manyOf x.1 - j) : Nat) : Int) := by omega
                      have q1 : (((ks.length - 1 - (manyOf x.1 - j) : Nat) : Int)) < ((ks.length - (manyOf x.1 - j) : Nat) : Int) := by omega
                      have hpp : p = partOf x.1 := hp (by omega)
                      by_cases c4 : y = p
                      · simp only [go_sem, pl60, e0, e1, e7, e10, e11, e12, e27, e28, e29, b9, hz2, hw1, hw2, hy2, q0, q1, c4]
                        refine ⟨by omega, j - 1, by omega, by congr 1; omega, rfl, by omega, ?_⟩
                        intro z hz3
                        rw [show manyOf x.1 - (j - 1) = manyOf x.1 - j + 1 by omega, take_one hy] at hz3
                        rcases List.mem_append.1 hz3 with h | h
                        · exact hall z h
                        · rw [List.mem_singleton.1 h, c4, hpp]
                      · simp only [go_sem, pl60, e0, e1, e7, e10, e11, e12, e27, e28, e29, b9, hz2, hw1, hw2, hy2, q0, q1, c4]
                        exact nope fun h => c4 (by rw [hpp]; exact h.2.2.2 y (List.mem_iff_getElem?.2 ⟨manyOf x.1 - j, by rw [List.getElem?_take_of_lt (by omega)]; exact hy⟩))
                    · simp only [go_sem, pl60, e0, e1, e7, e10, e11, e12, e27, e28, e29, b9, hz2, hw]
                      have hj0 : j = 0 := by omega
                      subst hj0
                      rw [Nat.sub_zero] at hall
                      have st : tstep wide vars ks x = some (ownOf x.1 :: ks.drop (manyOf x.1)) := if_pos ⟨c1, c2, c3n, hall⟩
                      refine ⟨by rw [List.length_reverse]; omega, by omega, k - 1, by omega, i + 1, sv + 1, ownOf x.1 :: ks.drop (manyOf x.1), ?_, rfl, ?_, by omega, ?_, by rw [hstep, st]⟩
                      · congr 1
                        rw [List.length_cons, List.length_drop]
                        omega
                      · congr 1
                        rw [Nat.sub_zero, ← List.map_take, rev_take c3n, List.reverse_cons, List.map_append]
                        rfl
                      · rw [List.length_cons, List.length_drop]; omega
              · simp only [go_sem, c2]
                exact nope fun h => c2 h.2.1
          · simp only [go_sem, pl60, e0, e1, e7, e27, e28, e29, b9, hz]
            rw [List.take_of_length_le (by omega)] at hr
            have kv : ∀ a, ks = [a] → kindT wide vars t = a := fun a h => by
              unfold kindT
              rw [if_pos ⟨h1, h2, by omega⟩, hr, h]
            have kn : ks.length ≠ 1 → kindT wide vars t = 0 := fun h => by
              unfold kindT
              rw [if_pos ⟨h1, h2, by omega⟩, hr]
              match ks, h with
              | [], _ => rfl
              | [a], h => exact absurd rfl h
              | a :: b :: r, _ => rfl
            by_cases hl1 : (ks.length : Int) = 1
            · obtain ⟨a, ha⟩ := List.length_eq_one_iff.1 (show ks.length = 1 by omega)
              have hg : ks.reverse[0]? = some a := by rw [ha]; rfl
              simp only [go_sem, pl60, e7, b9, hl1, hg]
              rw [kv a ha]
            · simp only [go_sem, hl1]
              rw [kn (by omega)]
      · simp only [go_sem, h3]
        exact bad fun h => h3 (by omega)
    · simp only [go_sem, h2]
      exact bad fun h => h2 h.2.1
  · simp only [go_sem, h1]
    exact bad fun h => h1 h.1
end Go.Proofs.Yteegphdelekdaaa

set_option linter.unusedVariables false
set_option linter.unusedSimpArgs false
namespace Go.Proofs.Yteegphdelekdaaa
open Go.Abs Go.IntWalk
set_option maxRecDepth 100000
attribute [local go_sem] eI eU eNs eN cN eChs eCh cCh eCos eCo cCo eP take_map
theorem trun_pre {wide vars : Int} {t : List PNode} {st : List Int} (h : trun wide vars t [] = some st) (i : Nat) : ∃ ks, trun wide vars (t.take i) [] = some ks := by
  cases hr : trun wide vars (t.take i) [] with
  | none => rw [trun_none hr] at h; cases h
  | some ks => exact ⟨ks, rfl⟩
theorem kind_run {wide vars : Int} {t : List PNode} (h : kindT wide vars t ≠ 0) : trun wide vars t [] = some [kindT wide vars t] := by
  unfold kindT at *
  split at h
  · rename_i hc
    split at h
    · rename_i k hk
      rw [if_pos hc, hk]
    · exact absurd rfl h
  · exact absurd rfl h
theorem erun_step {w : Nat} {s : List Nat} {t : List PNode} {i : Nat} {x : PNode} (hx : t[i]? = some x) : erun w s (t.take (i + 1)) [] = estep w s (erun w s (t.take i) []) x := by
  rw [take_one hx, erun_app]; rfl
theorem flip_val {w a : Nat} (hw : w ≤ 64) (ha : a < 2 ^ w) : (18446744073709551615 - a) % 2 ^ w = 2 ^ w - 1 - a := by
  have h6 := pow_le64 hw
  obtain ⟨c, hc⟩ := pow_dvd64 hw
  have h7 : 18446744073709551615 - a = (2 ^ w - 1 - a) + 2 ^ w * (c - 1) := by
    have : 2 ^ w * c = 2 ^ w * (c - 1) + 2 ^ w := by
      have hc0 : 0 < c := by
        rcases Nat.eq_zero_or_pos c with rfl | h
        · omega
        · exact h
      obtain ⟨d, rfl⟩ : ∃ d, c = d + 1 := ⟨c - 1, by omega⟩
      rw [Nat.mul_succ]; simp
    omega
  rw [h7, Nat.add_mul_mod_self_left, Nat.mod_eq_of_lt (by omega)]
theorem set_last {α : Type} {r : List α} {a b : α} : (r.reverse ++ [a]).set r.length b = r.reverse ++ [b] := by
  rw [List.set_append_right _ _ (by simp)]
  simp
theorem mode_flip {w a : Nat} (h1 : 1 ≤ w) (h2 : w ≤ 64) (ha : a < 2 ^ w) : abits .and .u64 ((18446744073709551615 - a : Nat) : Int) ((2 ^ w - 1 : Nat) : Int) = ((2 ^ w - 1 - a : Nat) : Int) := by
  have h6 := pow_le64 h2
  have hp : 0 < 2 ^ w := Nat.pow_pos (by omega)
  rw [and_u (by omega) (by omega), and_mask, flip_val h2 ha]
theorem one_sub {a : Nat} (h : a ≤ 1) : IntKind.wrap .u64 (1 - (a : Int)) = ((1 - a : Nat) : Int) := (u64_in _ (by omega)).trans (by omega)
end Go.Proofs.Yteegphdelekdaaa

set_option linter.unusedVariables false
set_option linter.unusedSimpArgs false
namespace Go.Proofs.Yteegphdelekdaaa
open Go.Abs Go.IntWalk
set_option maxRecDepth 100000
attribute [local go_sem] eI eU eNs eN cN eChs eCh cCh eCos eCo cCo eP take_map
end Go.Proofs.Yteegphdelekdaaa
