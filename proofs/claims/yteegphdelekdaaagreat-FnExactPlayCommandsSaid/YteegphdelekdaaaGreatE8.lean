/- Texts of ours, joined: YteegphdelekdaaaGreatG1 YteegphdelekdaaaGreatG2 YteegphdelekdaaaGreatG3 YteegphdelekdaaaGreatAbsY YteegphdelekdaaaGreatH40 YteegphdelekdaaaGreatH41 YteegphdelekdaaaGreatH42 YteegphdelekdaaaGreatH43 YteegphdelekdaaaGreatH44. -/
import Derived.Lib.SlicesCompact
import Derived.Test.YteegphdelekdaaaGreatAbs3
import Derived.Sort.Row
import Derived.Sort.Grow
import Derived.Test.YteegphdelekdaaaGreatE7
import Derived.Test.YteegphdelekdaaaGreatLay
set_option linter.unusedVariables false
set_option linter.unusedSimpArgs false
namespace Go.Proofs.YteegphdelekdaaaGreat
/-! Increasing lists of numbers. -/
def inc (l : List Int) : Prop := l.Pairwise (· < ·)
theorem inc_ext : ∀ {a b : List Int}, inc a → inc b → (∀ x, x ∈ a ↔ x ∈ b) → a = b
  | [], [], _, _, _ => rfl
  | [], y :: b, _, _, h => by have := (h y).2 (by simp); simp at this
  | x :: a, [], _, _, h => by have := (h x).1 (by simp); simp at this
  | x :: a, y :: b, ha, hb, h => by
    obtain ⟨h1, h2⟩ := List.pairwise_cons.1 ha
    obtain ⟨h3, h4⟩ := List.pairwise_cons.1 hb
    have e : x = y := by
      rcases List.mem_cons.1 ((h x).1 (by simp)) with e | e
      · exact e
      · rcases List.mem_cons.1 ((h y).2 (by simp)) with f | f
        · exact f.symm
        · have := h1 y f; have := h3 x e; omega
    subst e
    rw [inc_ext h2 h4 fun z => ?_]
    constructor
    · intro hz
      rcases List.mem_cons.1 ((h z).1 (by simp [hz])) with e | e
      · have := h1 z hz; omega
      · exact e
    · intro hz
      rcases List.mem_cons.1 ((h z).2 (by simp [hz])) with e | e
      · have := h3 z hz; omega
      · exact e
/-- A number put to its place, once. -/
def ins (n : Int) : List Int → List Int
  | [] => [n]
  | x :: l => if x < n then x :: ins n l else if x = n then x :: l else n :: x :: l
theorem mem_ins {n z : Int} : ∀ {l : List Int}, z ∈ ins n l ↔ z = n ∨ z ∈ l
  | [] => by simp [ins]
  | x :: l => by
    unfold ins
    split
    · rw [List.mem_cons, mem_ins, List.mem_cons]
      exact ⟨fun h => h.elim (fun h => .inr (.inl h)) fun h => h.elim .inl fun h => .inr (.inr h), fun h => h.elim (fun h => .inr (.inl h)) fun h => h.elim .inl fun h => .inr (.inr h)⟩
    · split
      · rename_i h; subst h; simp
      · simp
theorem inc_ins {n : Int} : ∀ {l : List Int}, inc l → inc (ins n l)
  | [], _ => by simp [ins, inc]
  | x :: l, h => by
    obtain ⟨h1, h2⟩ := List.pairwise_cons.1 h
    unfold ins
    split
    · refine List.pairwise_cons.2 ⟨fun z hz => ?_, inc_ins h2⟩
      rcases mem_ins.1 hz with rfl | hz
      · assumption
      · exact h1 z hz
    · split
      · exact h
      · refine List.pairwise_cons.2 ⟨fun z hz => ?_, h⟩
        rcases List.mem_cons.1 hz with rfl | hz
        · omega
        · have := h1 z hz; omega
theorem ins_len {n : Int} : ∀ {l : List Int}, (ins n l).length ≤ l.length + 1
  | [] => by simp [ins]
  | x :: l => by
    unfold ins
    split
    · simp only [List.length_cons]; have := ins_len (n := n) (l := l); omega
    · split <;> simp
theorem len_ins {n : Int} : ∀ {l : List Int}, l.length ≤ (ins n l).length
  | [] => by simp [ins]
  | x :: l => by
    unfold ins
    split
    · simp only [List.length_cons]; have := len_ins (n := n) (l := l); omega
    · split <;> simp
/-- How it is put: where the place is. -/
theorem ins_at {n : Int} : ∀ {l : List Int} {k : Nat}, (∀ x ∈ l.take k, x < n) → k ≤ l.length → (∀ y, l[k]? = some y → n ≤ y) → ins n l = if l[k]? = some n then l else l.take k ++ n :: l.drop k
  | [], k, _, hk, _ => by have : k = 0 := by simpa using hk
                          subst this; simp [ins]
  | x :: l, 0, _, _, h => by
    have := h x rfl
    unfold ins
    rw [if_neg (by omega)]
    simp only [List.getElem?_cons_zero, Option.some.injEq, List.take_zero, List.drop_zero, List.nil_append]
  | x :: l, k + 1, h1, h2, h3 => by
    have hx : x < n := h1 x (by simp)
    unfold ins
    rw [if_pos hx, ins_at (l := l) (k := k) (fun y hy => h1 y (by simp [hy])) (by simpa using h2) (fun y hy => h3 y (by simpa using hy))]
    simp only [List.getElem?_cons_succ, List.take_succ_cons, List.drop_succ_cons]
    split <;> simp
/-- The numbers of a list, increasing. -/
def canon (l : List Int) : List Int := l.foldl (fun a x => ins x a) []
theorem foldl_ins {l a : List Int} (ha : inc a) : inc (l.foldl (fun a x => ins x a) a) ∧ ∀ z, z ∈ l.foldl (fun a x => ins x a) a ↔ z ∈ a ∨ z ∈ l := by
  induction l generalizing a with
  | nil => exact ⟨ha, by simp⟩
  | cons x l ih =>
    obtain ⟨h1, h2⟩ := ih (a := ins x a) (inc_ins ha)
    refine ⟨h1, fun z => ?_⟩
    rw [List.foldl_cons, h2, mem_ins, List.mem_cons]
    exact ⟨fun h => h.elim (fun h => h.elim (fun h => .inr (.inl h)) .inl) fun h => .inr (.inr h), fun h => h.elim (fun h => .inl (.inr h)) fun h => h.elim (fun h => .inl (.inl h)) .inr⟩
theorem inc_canon (l : List Int) : inc (canon l) := (foldl_ins List.Pairwise.nil).1
theorem mem_canon {l : List Int} {z : Int} : z ∈ canon l ↔ z ∈ l := by rw [canon, (foldl_ins List.Pairwise.nil).2]; simp
theorem canon_app {l : List Int} {x : Int} : canon (l ++ [x]) = ins x (canon l) := by simp [canon, List.foldl_append]
theorem canon_nil : canon [] = [] := rfl
theorem canon_len : ∀ {l : List Int}, (canon l).length ≤ l.length := by
  intro l
  have : ∀ (l a : List Int), (l.foldl (fun a x => ins x a) a).length ≤ a.length + l.length := by
    intro l
    induction l with
    | nil => intro a; simp
    | cons x l ih => intro a; rw [List.foldl_cons, List.length_cons]; have := ih (ins x a); have := ins_len (n := x) (l := a); omega
  have := this l []
  simpa [canon] using this
theorem canon_eq {a b : List Int} (hb : inc b) (h : ∀ x, x ∈ a ↔ x ∈ b) : canon a = b := inc_ext (inc_canon a) hb fun x => by rw [mem_canon]; exact h x
theorem canon_of {a b : List Int} (h : ∀ x, x ∈ a ↔ x ∈ b) : canon a = canon b := canon_eq (inc_canon b) fun x => by rw [mem_canon]; exact h x
theorem canon_inc {a : List Int} (h : inc a) : canon a = a := canon_eq h fun _ => Iff.rfl
theorem inc_len {l : List Int} {n : Nat} (h : inc l) (hb : ∀ x ∈ l, 0 ≤ x ∧ x < n) : l.length ≤ n := by
  have key : ∀ (l : List Int) (a : Int), inc l → (∀ x ∈ l, a ≤ x ∧ x < n) → a ≤ n → (l.length : Int) + a ≤ n := by
    intro l
    induction l with
    | nil => intro a _ _ ha; simpa using ha
    | cons x l ih =>
      intro a h hb ha
      obtain ⟨h1, h2⟩ := List.pairwise_cons.1 h
      have h3 := hb x (by simp)
      have := ih (x + 1) h2 (fun y hy => ⟨by have := h1 y hy; omega, (hb y (by simp [hy])).2⟩) (by omega)
      simp only [List.length_cons]; omega
  have := key l 0 h hb (by omega)
  omega
/-- Sorting, then compacting. -/
theorem comp_sorted {d : Array Int} (hs : ∀ j, 0 < j → j < d.size → d[j - 1]! ≤ d[j]!) : ∀ m, m ≤ d.size → inc (Go.Lib.compactUpTo d m) ∧ (∀ x ∈ Go.Lib.compactUpTo d m, x ≤ d[m - 1]!) ∧ ∀ x, x ∈ Go.Lib.compactUpTo d m ↔ ∃ j, j < m ∧ d[j]! = x := by
  intro m
  induction m with
  | zero => intro _; simp [Go.Lib.compactUpTo, inc]
  | succ m ih =>
    intro hm
    obtain ⟨h1, h2, h3⟩ := ih (by omega)
    rw [Go.Lib.compactUpTo_succ]
    by_cases h0 : m = 0
    · subst h0
      have hk : Go.Lib.keeps d 0 = true := by simp [Go.Lib.keeps]
      rw [if_pos hk]
      have he : Go.Lib.compactUpTo d 0 = [] := by simp [Go.Lib.compactUpTo]
      rw [he]
      refine ⟨by simp [inc], by simp, fun x => ?_⟩
      simp only [List.nil_append, List.mem_singleton]
      exact ⟨fun h => ⟨0, by omega, h.symm⟩, fun ⟨j, hj, e⟩ => by rw [← e, show j = 0 by omega]⟩
    have hle := hs m (by omega) (by omega)
    by_cases hk : d[m]! = d[m - 1]!
    · rw [Go.Lib.keeps_neg (by omega) hk]
      simp only [Bool.false_eq_true, if_false, List.append_nil, Nat.add_sub_cancel]
      refine ⟨h1, fun x hx => by rw [hk]; exact h2 x hx, fun x => ?_⟩
      rw [h3]
      exact ⟨fun ⟨j, hj, e⟩ => ⟨j, by omega, e⟩, fun ⟨j, hj, e⟩ => by
        by_cases hjm : j = m
        · exact ⟨m - 1, by omega, by rw [← hk, ← hjm]; exact e⟩
        · exact ⟨j, by omega, e⟩⟩
    · rw [Go.Lib.keeps_pos hk, if_pos rfl, Nat.add_sub_cancel]
      refine ⟨?_, fun x hx => ?_, fun x => ?_⟩
      · refine List.pairwise_append.2 ⟨h1, by simp, fun a ha b hb => ?_⟩
        rw [List.mem_singleton.1 hb]
        have := h2 a ha
        omega
      · rcases List.mem_append.1 hx with hx | hx
        · have := h2 x hx; omega
        · rw [List.mem_singleton.1 hx]; exact Int.le_refl _
      · rw [List.mem_append, h3, List.mem_singleton]
        constructor
        · rintro (⟨j, hj, e⟩ | e)
          · exact ⟨j, by omega, e⟩
          · exact ⟨m, by omega, e.symm⟩
        · rintro ⟨j, hj, e⟩
          by_cases hjm : j = m
          · exact .inr (by rw [← e, hjm])
          · exact .inl ⟨j, by omega, e⟩
theorem compact_sort (l : List Int) : Go.Lib.compact (l.mergeSort fun x y => decide (x ≤ y)) = canon l := by
  have hp := List.mergeSort_perm l (fun x y => decide (x ≤ y))
  have hs := List.pairwise_mergeSort (le := fun x y : Int => decide (x ≤ y)) (fun a b c h1 h2 => by simp at *; omega) (fun a b => by simp; omega) l
  generalize hm : l.mergeSort (fun x y => decide (x ≤ y)) = zs at *
  have hs' : ∀ j, 0 < j → j < zs.toArray.size → zs.toArray[j - 1]! ≤ zs.toArray[j]! := by
    intro j h0 hj
    have hj' : j < zs.length := by simpa using hj
    rw [getElem!_pos zs.toArray j hj, getElem!_pos zs.toArray (j - 1) (by simp; omega)]
    have := List.pairwise_iff_getElem.1 hs (j - 1) j (by omega) hj' (by omega)
    simpa using this
  obtain ⟨h1, _, h3⟩ := comp_sorted hs' zs.length (by simp)
  refine (canon_eq h1 fun x => ?_).symm
  rw [← hp.mem_iff]
  show x ∈ zs ↔ x ∈ Go.Lib.compactUpTo zs.toArray zs.length
  rw [h3]
  constructor
  · intro hx
    obtain ⟨j, hj, e⟩ := List.getElem_of_mem hx
    exact ⟨j, hj, by rw [getElem!_pos zs.toArray j (by simpa using hj)]; simpa using e⟩
  · rintro ⟨j, hj, e⟩
    rw [getElem!_pos zs.toArray j (by simpa using hj)] at e
    rw [← e]; simp
end Go.Proofs.YteegphdelekdaaaGreat

set_option linter.unusedVariables false
set_option linter.unusedSimpArgs false
namespace Go.Proofs.YteegphdelekdaaaGreat
/-! Graphs: the search in breadth. -/
def sucs (g : List (List Int)) (x : Int) : List Int := (g[x.toNat]?).getD []
def lab (st : List Int) (x : Int) : Int := (st[x.toNat]?).getD (-1)
def Wk (g : List (List Int)) (some : List Int) : Nat → Int → Prop
  | 0, x => x ∈ some
  | k + 1, x => Wk g some k x ∨ ∃ y, Wk g some k y ∧ x ∈ sucs g y
def inN (n : Nat) (x : Int) : Prop := 0 ≤ x ∧ x < n
def okG (g : List (List Int)) : Prop := ∀ l ∈ g, ∀ x ∈ l, inN g.length x
def negs (st : List Int) : Nat := st.countP fun x => decide (x < 0)
theorem suc_in {g : List (List Int)} (hg : okG g) {x y : Int} (h : y ∈ sucs g x) : inN g.length y := by
  unfold sucs at h
  cases hx : g[x.toNat]? with
  | none => rw [hx] at h; simp at h
  | some l => rw [hx] at h; exact hg l (List.mem_of_getElem? hx) y h
theorem lab_set {st : List Int} {n : Nat} {w x d : Int} (hn : st.length = n) (hw : inN n w) (hx : inN n x) : lab (st.set w.toNat d) x = if x = w then d else lab st x := by
  unfold lab inN at *
  rw [List.getElem?_set]
  by_cases e : x = w
  · subst e
    rw [if_pos rfl, if_pos (by omega)]; simp
  · rw [if_neg (by omega), if_neg e]
theorem lab_get {st : List Int} {n : Nat} {x : Int} (hn : st.length = n) (hx : inN n x) : st[x.toNat]? = some (lab st x) := by
  unfold lab inN at *
  rw [List.getElem?_eq_getElem (by omega)]; rfl
structure BI (g : List (List Int)) (some st op : List Int) : Prop where
  len : st.length = g.length
  opn : ∀ x ∈ op, inN g.length x ∧ 0 ≤ lab st x
  src : ∀ x ∈ some, inN g.length x ∧ lab st x = 0
  snd : ∀ x, inN g.length x → 0 ≤ lab st x → Wk g some (lab st x).toNat x
  don : ∀ x, inN g.length x → 0 ≤ lab st x → ¬ x ∈ op → ∀ y ∈ sucs g x, 0 ≤ lab st y ∧ lab st y ≤ lab st x + 1
  ord : op.Pairwise fun a b => lab st a ≤ lab st b
  top : ∀ u r, op = u :: r → ∀ x, inN g.length x → lab st x ≤ lab st u + 1
  bnd : ∀ x, inN g.length x → 0 ≤ lab st x → lab st x + (negs st : Int) ≤ g.length
theorem negs_set {st : List Int} {i : Nat} {d x : Int} (h : st[i]? = some x) (hx : x < 0) (hd : 0 ≤ d) : negs (st.set i d) + 1 = negs st := by
  obtain ⟨h1, h2⟩ := List.getElem?_eq_some_iff.1 h
  unfold negs
  have hpos : 0 < st.countP fun x => decide (x < 0) := List.countP_pos_iff.2 ⟨x, List.mem_of_getElem? h, by simpa using hx⟩
  rw [List.countP_set h1, h2]
  simp only [decide_eq_true hx, decide_eq_false (show ¬ d < 0 by omega), if_true, Bool.false_eq_true, if_false]
  omega
theorem BI.push {g : List (List Int)} (hg : okG g) {some st r : List Int} {u w : Int} (h : BI g some st (u :: r)) (hw : w ∈ sucs g u) (hl : lab st w < 0) : BI g some (st.set w.toNat (lab st u + 1)) (u :: (r ++ [w])) := by
  have hwn := suc_in hg hw
  obtain ⟨hun, hul⟩ := h.opn u (by simp)
  have hL : ∀ x, inN g.length x → lab (st.set w.toNat (lab st u + 1)) x = if x = w then lab st u + 1 else lab st x := fun x hx => lab_set h.len hwn hx
  have hne : ∀ x, 0 ≤ lab st x → x ≠ w := fun x hx e => by subst e; omega
  have hneg := negs_set (d := lab st u + 1) (lab_get h.len hwn) hl (by omega)
  have htop := h.top u r rfl
  have hbu := h.bnd u hun hul
  refine ⟨by rw [List.length_set]; exact h.len, ?_, ?_, ?_, ?_, ?_, ?_, ?_⟩
  · intro x hx
    rw [← List.cons_append] at hx
    rcases List.mem_append.1 hx with hx | hx
    · obtain ⟨h1, h2⟩ := h.opn x hx
      exact ⟨h1, by rw [hL x h1, if_neg (hne x h2)]; exact h2⟩
    · rw [List.mem_singleton.1 hx]
      exact ⟨hwn, by rw [hL w hwn, if_pos rfl]; omega⟩
  · intro x hx
    obtain ⟨h1, h2⟩ := h.src x hx
    exact ⟨h1, by rw [hL x h1, if_neg (hne x (by omega))]; exact h2⟩
  · intro x hx
    rw [hL x hx]
    by_cases e : x = w
    · subst e
      rw [if_pos rfl]
      intro _
      have e1 : (lab st u + 1).toNat = (lab st u).toNat + 1 := by omega
      rw [e1]
      exact .inr ⟨u, h.snd u hun hul, hw⟩
    · rw [if_neg e]; exact h.snd x hx
  · intro x hx
    rw [hL x hx]
    by_cases e : x = w
    · subst e
      intro _ hno
      exact absurd (by simp) hno
    · rw [if_neg e]
      intro h0 hno y hy
      have h1 := h.don x hx h0 (fun hm => hno (by rw [← List.cons_append]; exact List.mem_append_left _ hm)) y hy
      rw [hL y (suc_in hg hy), if_neg (hne y h1.1)]
      exact h1
  · rw [← List.cons_append]
    refine List.pairwise_append.2 ⟨?_, by simp, fun a ha b hb => ?_⟩
    · refine h.ord.imp_of_mem fun {a b} ha hb hab => ?_
      obtain ⟨a1, a2⟩ := h.opn a ha
      obtain ⟨b1, b2⟩ := h.opn b hb
      rw [hL a a1, hL b b1, if_neg (hne a a2), if_neg (hne b b2)]; exact hab
    · obtain ⟨a1, a2⟩ := h.opn a ha
      rw [List.mem_singleton.1 hb, hL a a1, hL w hwn, if_neg (hne a a2), if_pos rfl]
      exact htop a a1
  · intro u' r' e x hx
    injection e with e1 e2
    subst e1
    rw [hL x hx, hL u hun, if_neg (hne u hul)]
    split
    · omega
    · exact htop x hx
  · intro x hx
    rw [hL x hx]
    by_cases e : x = w
    · rw [if_pos e]; intro _; omega
    · rw [if_neg e]
      intro h0
      have := h.bnd x hx h0
      omega
theorem BI.pop {g : List (List Int)} {some st r : List Int} {u : Int} (h : BI g some st (u :: r)) (hu : ∀ y ∈ sucs g u, 0 ≤ lab st y ∧ lab st y ≤ lab st u + 1) : BI g some st r := by
  obtain ⟨o1, o2⟩ := List.pairwise_cons.1 h.ord
  refine ⟨h.len, fun x hx => h.opn x (by simp [hx]), h.src, h.snd, fun x hx h0 hno y hy => ?_, o2, ?_, h.bnd⟩
  · by_cases e : x = u
    · subst e; exact hu y hy
    · exact h.don x hx h0 (by simp [e, hno]) y hy
  · intro v r' e x hx
    have h1 := h.top u r rfl x hx
    have h2 := o1 v (by rw [e]; simp)
    omega
theorem BI.fin {g : List (List Int)} (hg : okG g) {some st : List Int} (h : BI g some st []) : ∀ k x, Wk g some k x → inN g.length x ∧ 0 ≤ lab st x ∧ lab st x ≤ k := by
  intro k
  induction k with
  | zero => intro x hx; obtain ⟨h1, h2⟩ := h.src x hx; exact ⟨h1, by omega, by omega⟩
  | succ k ih =>
    rintro x (hx | ⟨y, hy, hx⟩)
    · obtain ⟨h1, h2, h3⟩ := ih x hx; exact ⟨h1, h2, by omega⟩
    · obtain ⟨h1, h2, h3⟩ := ih y hy
      have := h.don y h1 h2 (by simp) x hx
      exact ⟨suc_in hg hx, this.1, by omega⟩
/-- The labels at the start. -/
def marked (n : Nat) (some : List Int) : List Int := some.foldl (fun st v => st.set v.toNat 0) (List.replicate n (-1))
theorem marked_app {n : Nat} {some : List Int} {v : Int} : marked n (some ++ [v]) = (marked n some).set v.toNat 0 := by simp [marked, List.foldl_append]
theorem marked_len {n : Nat} {some : List Int} : (marked n some).length = n := by
  have : ∀ (some st : List Int), (some.foldl (fun st v => st.set v.toNat 0) st).length = st.length := by
    intro some
    induction some with
    | nil => intro st; rfl
    | cons v some ih => intro st; rw [List.foldl_cons, ih, List.length_set]
  rw [marked, this]; simp
theorem marked_lab {n : Nat} {some : List Int} (hs : ∀ x ∈ some, inN n x) {x : Int} (hx : inN n x) : lab (marked n some) x = if x ∈ some then 0 else -1 := by
  have key : ∀ (some st : List Int), st.length = n → (∀ x ∈ some, inN n x) → lab (some.foldl (fun st v => st.set v.toNat 0) st) x = if x ∈ some then 0 else lab st x := by
    intro some
    induction some with
    | nil => intro st _ _; simp
    | cons v some ih =>
      intro st hl hs
      rw [List.foldl_cons, ih _ (by rw [List.length_set]; exact hl) (fun y hy => hs y (by simp [hy])), lab_set hl (hs v (by simp)) hx]
      by_cases e : x = v
      · subst e; simp
      · simp [e]
  rw [marked, key some _ (by simp) hs]
  have : lab (List.replicate n (-1)) x = -1 := by
    unfold lab
    rw [List.getElem?_replicate]
    split <;> rfl
  rw [this]
theorem negs_le (st : List Int) : negs st ≤ st.length := List.countP_le_length
theorem BI.start {g : List (List Int)} {some : List Int} (hs : ∀ x ∈ some, inN g.length x) : BI g some (marked g.length some) some := by
  have hL : ∀ x, inN g.length x → lab (marked g.length some) x = if x ∈ some then 0 else -1 := fun x hx => marked_lab hs hx
  have hz : ∀ x ∈ some, lab (marked g.length some) x = 0 := fun x hx => by rw [hL x (hs x hx), if_pos hx]
  have hm : ∀ x, inN g.length x → 0 ≤ lab (marked g.length some) x → x ∈ some := fun x hx h => by
    by_cases e : x ∈ some
    · exact e
    · rw [hL x hx, if_neg e] at h; omega
  refine ⟨marked_len, fun x hx => ⟨hs x hx, by rw [hz x hx]; omega⟩, fun x hx => ⟨hs x hx, hz x hx⟩, ?_, ?_, ?_, ?_, ?_⟩
  · intro x hx h0
    rw [hz x (hm x hx h0)]; exact hm x hx h0
  · intro x hx h0 hno; exact absurd (hm x hx h0) hno
  · exact List.pairwise_of_forall_mem_list fun a ha b hb => by rw [hz a ha, hz b hb]; exact Int.le_refl _
  · intro u r e x hx
    rw [hL x hx, hz u (by rw [e]; simp)]
    split <;> omega
  · intro x hx h0
    rw [hz x (hm x hx h0)]
    have := negs_le (marked g.length some)
    rw [marked_len] at this
    omega
/-- What the search finds. -/
structure Dist (g : List (List Int)) (some st : List Int) : Prop where
  len : st.length = g.length
  snd : ∀ x, inN g.length x → 0 ≤ lab st x → Wk g some (lab st x).toNat x
  cpl : ∀ k x, Wk g some k x → inN g.length x ∧ 0 ≤ lab st x ∧ lab st x ≤ k
theorem BI.dist {g : List (List Int)} (hg : okG g) {some st : List Int} (h : BI g some st []) : Dist g some st := ⟨h.len, h.snd, h.fin hg⟩
theorem Wk_mono {g : List (List Int)} {some : List Int} {x : Int} : ∀ {k m : Nat}, k ≤ m → Wk g some k x → Wk g some m x := by
  intro k m h hx
  induction h with
  | refl => exact hx
  | step _ ih => exact .inl ih
end Go.Proofs.YteegphdelekdaaaGreat

set_option linter.unusedVariables false
set_option linter.unusedSimpArgs false
namespace Go.Proofs.YteegphdelekdaaaGreat
/-! The levels of a graph; what is reached. -/
theorem inc_sub : ∀ {a b : List Int}, inc a → inc b → (∀ x ∈ a, x ∈ b) → a.Sublist b
  | [], b, _, _, _ => List.nil_sublist b
  | x :: a, [], _, _, h => by have := h x (by simp); simp at this
  | x :: a, y :: b, ha, hb, h => by
    obtain ⟨h1, h2⟩ := List.pairwise_cons.1 ha
    obtain ⟨h3, h4⟩ := List.pairwise_cons.1 hb
    by_cases e : x = y
    · subst e
      refine List.Sublist.cons_cons x (inc_sub h2 h4 fun z hz => ?_)
      rcases List.mem_cons.1 (h z (by simp [hz])) with e | e
      · have := h1 z hz; omega
      · exact e
    · refine List.Sublist.cons y (inc_sub ha h4 fun z hz => ?_)
      rcases List.mem_cons.1 (h z hz) with e2 | e2
      · subst e2
        rcases List.mem_cons.1 (h x (by simp)) with e3 | e3
        · exact absurd e3 e
        · have h5 := h3 x e3
          rcases List.mem_cons.1 hz with e4 | e4
          · exact absurd e4.symm e
          · have := h1 z e4; omega
      · exact e2
theorem inc_same {a b : List Int} (ha : inc a) (hb : inc b) (h : ∀ x ∈ a, x ∈ b) (hl : b.length = a.length) : b = a := ((inc_sub ha hb h).eq_of_length hl.symm).symm
theorem inc_le {a b : List Int} (ha : inc a) (hb : inc b) (h : ∀ x ∈ a, x ∈ b) : a.length ≤ b.length := (inc_sub ha hb h).length_le
/-- What one step leads to from some. -/
def aft (g : List (List Int)) (l : List Int) : List Int := canon (l.flatMap (sucs g))
def uni (a b : List Int) : List Int := canon (a ++ b)
def lv (g : List (List Int)) (some : List Int) : Nat → List Int
  | 0 => some
  | k + 1 => uni (lv g some k) (aft g (lv g some k))
theorem mem_aft {g : List (List Int)} {l : List Int} {x : Int} : x ∈ aft g l ↔ ∃ y ∈ l, x ∈ sucs g y := by rw [aft, mem_canon, List.mem_flatMap]
theorem mem_uni {a b : List Int} {x : Int} : x ∈ uni a b ↔ x ∈ a ∨ x ∈ b := by rw [uni, mem_canon, List.mem_append]
theorem mem_lv {g : List (List Int)} {some : List Int} : ∀ {k : Nat} {x : Int}, x ∈ lv g some k ↔ Wk g some k x
  | 0, x => Iff.rfl
  | k + 1, x => by
    rw [lv, mem_uni, mem_lv, mem_aft, Wk]
    exact ⟨fun h => h.elim .inl fun ⟨y, h1, h2⟩ => .inr ⟨y, mem_lv.1 h1, h2⟩, fun h => h.elim .inl fun ⟨y, h1, h2⟩ => .inr ⟨y, mem_lv.2 h1, h2⟩⟩
theorem inc_lv {g : List (List Int)} {some : List Int} (hs : inc some) : ∀ k, inc (lv g some k)
  | 0 => hs
  | k + 1 => inc_canon _
theorem Wk_in {g : List (List Int)} (hg : okG g) {some : List Int} (hs : ∀ x ∈ some, inN g.length x) : ∀ {k : Nat} {x : Int}, Wk g some k x → inN g.length x
  | 0, x, h => hs x h
  | k + 1, x, h => h.elim (Wk_in hg hs) fun ⟨y, _, h2⟩ => suc_in hg h2
theorem lv_len {g : List (List Int)} (hg : okG g) {some : List Int} (hi : inc some) (hs : ∀ x ∈ some, inN g.length x) (k : Nat) : (lv g some k).length ≤ g.length := inc_len (inc_lv hi k) fun x hx => Wk_in hg hs (mem_lv.1 hx)
theorem lv_grow {g : List (List Int)} {some : List Int} (hi : inc some) (k : Nat) : (lv g some k).length ≤ (lv g some (k + 1)).length := inc_le (inc_lv hi k) (inc_lv hi (k + 1)) fun x hx => mem_lv.2 (.inl (mem_lv.1 hx))
theorem lv_stop {g : List (List Int)} {some : List Int} (hi : inc some) {k : Nat} (h : (lv g some (k + 1)).length = (lv g some k).length) : ∀ m x, Wk g some m x → Wk g some k x := by
  have e : lv g some (k + 1) = lv g some k := inc_same (inc_lv hi k) (inc_lv hi (k + 1)) (fun x hx => mem_lv.2 (.inl (mem_lv.1 hx))) h
  have hst : ∀ x, Wk g some (k + 1) x → Wk g some k x := fun x hx => mem_lv.1 (e ▸ mem_lv.2 hx)
  intro m
  induction m with
  | zero => intro x hx; exact Wk_mono (Nat.zero_le k) hx
  | succ m ih =>
    rintro x (hx | ⟨y, hy, hx⟩)
    · exact ih x hx
    · exact hst x (.inr ⟨y, ih y hy, hx⟩)
/-- What is reached, increasing. -/
def isReach (g : List (List Int)) (some R : List Int) : Prop := inc R ∧ ∀ x, x ∈ R ↔ ∃ k, Wk g some k x
open Classical in
noncomputable def reachL (g : List (List Int)) (some : List Int) : List Int := if h : ∃ R, isReach g some R then Classical.choose h else []
theorem reach_eq {g : List (List Int)} {some R : List Int} (h : isReach g some R) : R = reachL g some := by
  have hx : ∃ R, isReach g some R := ⟨R, h⟩
  unfold reachL
  rw [dif_pos hx]
  have h2 := Classical.choose_spec hx
  exact inc_ext h.1 h2.1 fun x => by rw [h.2, h2.2]
theorem lv_reach {g : List (List Int)} {some : List Int} (hi : inc some) {k : Nat} (h : (lv g some (k + 1)).length = (lv g some k).length) : lv g some k = reachL g some :=
  reach_eq ⟨inc_lv hi k, fun x => by rw [mem_lv]; exact ⟨fun h => ⟨k, h⟩, fun ⟨m, hm⟩ => lv_stop hi h m x hm⟩⟩
/-- The labelled vertices below a number. -/
def labd (st : List Int) (n : Nat) : List Int := ((List.range n).filter fun i => decide (0 ≤ lab st (i : Nat))).map fun (i : Nat) => (i : Int)
theorem labd_succ {st : List Int} {n : Nat} : labd st (n + 1) = if 0 ≤ lab st (n : Nat) then labd st n ++ [(n : Int)] else labd st n := by
  unfold labd
  rw [List.range_succ, List.filter_append, List.map_append]
  by_cases h : 0 ≤ lab st (n : Nat)
  · rw [if_pos h, List.filter_cons_of_pos (by simp [h])]; rfl
  · rw [if_neg h, List.filter_cons_of_neg (by simp [h])]; simp
theorem mem_labd {st : List Int} {n : Nat} {x : Int} : x ∈ labd st n ↔ inN n x ∧ 0 ≤ lab st x := by
  unfold labd inN
  simp only [List.mem_map, List.mem_filter, List.mem_range, decide_eq_true_eq]
  constructor
  · rintro ⟨i, ⟨h1, h2⟩, rfl⟩; exact ⟨by omega, h2⟩
  · rintro ⟨h1, h2⟩
    exact ⟨x.toNat, ⟨by omega, by rw [show ((x.toNat : Nat) : Int) = x by omega]; exact h2⟩, by omega⟩
theorem inc_cast {l : List Nat} (h : l.Pairwise (· < ·)) : inc (l.map fun (i : Nat) => (i : Int)) := by
  rw [inc, List.pairwise_map]
  exact h.imp fun h => by omega
theorem inc_labd {st : List Int} {n : Nat} : inc (labd st n) := inc_cast (List.Pairwise.filter _ List.pairwise_lt_range)
theorem labd_len {st : List Int} {n : Nat} : (labd st n).length ≤ n := by
  unfold labd
  rw [List.length_map]
  exact Nat.le_trans (List.length_filter_le _ _) (by simp)
theorem labd_reach {g : List (List Int)} {some st : List Int} (h : Dist g some st) : labd st g.length = reachL g some :=
  reach_eq ⟨inc_labd, fun x => by
    rw [mem_labd]
    exact ⟨fun ⟨h1, h2⟩ => ⟨_, h.snd x h1 h2⟩, fun ⟨k, hk⟩ => ⟨(h.cpl k x hk).1, (h.cpl k x hk).2.1⟩⟩⟩
/-- There is a list of what is reached: for a good graph. -/
theorem isD_of {g : List (List Int)} {some st : List Int} (h : Dist g some st) {x : Int} (hx : inN g.length x) (h0 : 0 ≤ lab st x) : Wk g some (lab st x).toNat x ∧ ∀ k, k < (lab st x).toNat → ¬ Wk g some k x :=
  ⟨h.snd x hx h0, fun k hk hw => by have := (h.cpl k x hw).2.2; omega⟩
/-- How many steps lead to a vertex at least. -/
def isD (g : List (List Int)) (some : List Int) (x : Int) (d : Nat) : Prop := Wk g some d x ∧ ∀ k, k < d → ¬ Wk g some k x
theorem isD_unique {g : List (List Int)} {some : List Int} {x : Int} {a b : Nat} (ha : isD g some x a) (hb : isD g some x b) : a = b := by
  rcases Nat.lt_trichotomy a b with h | h | h
  · exact absurd ha.1 (hb.2 a h)
  · exact h
  · exact absurd hb.1 (ha.2 b h)
open Classical in
noncomputable def distL (g : List (List Int)) (some : List Int) (x : Int) : Int := if h : ∃ d, isD g some x d then (Classical.choose h : Nat) else -1
theorem dist_eq {g : List (List Int)} {some : List Int} {x : Int} {d : Nat} (h : isD g some x d) : distL g some x = d := by
  have hx : ∃ d, isD g some x d := ⟨d, h⟩
  unfold distL
  rw [dif_pos hx]
  have := isD_unique (Classical.choose_spec hx) h
  omega
theorem dist_none {g : List (List Int)} {some : List Int} {x : Int} (h : ∀ k, ¬ Wk g some k x) : distL g some x = -1 := by
  unfold distL
  rw [dif_neg fun ⟨d, hd⟩ => h d hd.1]
theorem lab_dist {g : List (List Int)} {some st : List Int} (h : Dist g some st) {x : Int} (hx : inN g.length x) : (0 ≤ lab st x → lab st x = distL g some x) ∧ (lab st x < 0 → distL g some x = -1) := by
  constructor
  · intro h0
    rw [dist_eq (isD_of h hx h0)]; omega
  · intro h0
    exact dist_none fun k hk => by have := (h.cpl k x hk).2.1; omega
end Go.Proofs.YteegphdelekdaaaGreat

/- The abstract machine, part Y: a function of the library that writes one row of numbers in place. -/
set_option linter.unusedVariables false
set_option linter.unusedSimpArgs false
namespace Go.Abs
open Go.Sort
variable {P : Program} {g : FuncId} {B : Base} {m : Nat → Option (Nat × Nat)} {H : Heap} {N : Nat → Prop} {w w' : World}
/-- The same memory, and more. -/
theorem St.more (h : St B m H N w) (hs : w.heap.size ≤ w'.heap.size) (hb : ∀ b, b < w.heap.size → w'.heap[b]? = w.heap[b]?) (ho : w'.os = w.os) (ht : w'.tape = w.tape) (hu : w'.output = w.output) : St B m H N w' ∧ Ch m H N w m H N w' := by
  have hk : Keeps (fun _ => False) w w' := ⟨hs, fun b h1 _ => hb b h1, ho, ht, hu⟩
  have hk2 : Keeps N w w' := ⟨hs, fun b h1 _ => hb b h1, ho, ht, hu⟩
  have lt : ∀ {b : Nat} {o : Obj}, w.heap[b]? = some o → b < w.heap.size := fun h => (Array.getElem?_eq_some_iff.1 h).1
  have hc : Ch m H N w m H N w' := ⟨fun a v hf => hf.keeps hk2 (fun _ _ h => h), fun _ => Nat.le_refl _, fun id ver T sz cs hl => .inr ⟨⟨T, cs, hl⟩, rfl, fun b sh _ c T1 z h1 => ⟨c, T1, z, by rw [hb b (lt h1)]; exact h1, rfl⟩⟩⟩
  refine ⟨⟨h.keep.trans hk (fun _ _ h => h.elim), fun b hN => Nat.lt_of_lt_of_le (h.nlt b hN) hs, h.n0, h.n0lt, h.nfresh, h.fresh, h.orig, h.inj, ?_, h.virt⟩, hc⟩
  intro i ver T sz cs b sh h1 h2
  obtain ⟨a1, a2, c, a3, a4, a5⟩ := h.own i ver T sz cs b sh h1 h2
  exact ⟨a1, a2, c, by rw [hb b (lt a3)]; exact a3, a4, fun j x v hx hv => (a5 j x v hx hv).ch hc⟩
/-- One row of a block of ours is written. -/
theorem St.putRow (h : St B m H N w) {id ver T : Nat} {pre post : List AV} {zs ys : List Int} {b sh n : Nat} {os : Array Obj} (hH : H id = .cells ver T 1 (pre ++ zs.map (AV.int .i64) ++ post)) (hm : m id = some (b, sh)) (hl : ys.length = zs.length)
    (hw : w' = Go.Sort.grow (Go.Sort.putRow (Value.int .i64) (Sort.ahead w n) b (sh + pre.length) ys.toArray) os) :
    St B m (upd H id (.cells ver T 1 (pre ++ ys.map (AV.int .i64) ++ post))) N w' ∧ Ch m H N w m (upd H id (.cells ver T 1 (pre ++ ys.map (AV.int .i64) ++ post))) N w' := by
  obtain ⟨n1, n2, c0, hb, hc2, hc3⟩ := h.own id ver T 1 _ b sh hH hm
  have hblt : b < w.heap.size := (Array.getElem?_eq_some_iff.1 hb).1
  generalize hc' : putCells (Value.int .i64) (sh + pre.length) ys.toArray c0 = c'
  have hs : c'.size = c0.size := by rw [← hc']; simp [putCells]
  simp only [List.length_append, List.length_map] at hc2
  have hrow := h.row hH hm hb ver sh (.inl ⟨rfl, rfl⟩) (pre ++ ys.map (AV.int .i64) ++ post) c' hs (by simp only [List.length_append, List.length_map]; omega) ?_
  · have e : upd m id (some (b, sh)) = m := by rw [← hm, upd_self]
    rw [e] at hrow
    obtain ⟨hS1, hC1⟩ := hrow
    have hm2 := hS1.more (w' := w') ?_ ?_ ?_ ?_ ?_
    · exact ⟨hm2.1, hC1.trans hm2.2⟩
    · rw [hw]; simp [Go.Sort.grow, Go.Sort.putRow, mapBlock, Sort.ahead]
    · intro k hk
      have hk' : k < w.heap.size := by simpa using hk
      rw [hw]
      have e1 : (Go.Sort.grow (Go.Sort.putRow (Value.int .i64) (Sort.ahead w n) b (sh + pre.length) ys.toArray) os).heap[k]? = (Go.Sort.putRow (Value.int .i64) (Sort.ahead w n) b (sh + pre.length) ys.toArray).heap[k]? := by
        simp only [Go.Sort.grow]
        rw [Array.getElem?_append_left (by simp [Go.Sort.putRow, mapBlock, Sort.ahead]; exact hk')]
      rw [e1]
      by_cases e : k = b
      · subst e
        rw [setRow_heap w k c0 c' T (0, 0) hb, ← hc']
        simp [Go.Sort.putRow, mapBlock, Sort.ahead, Array.getElem?_modify, hb, onCells]
      · rw [setRow_other w b k c' e]
        simp [Go.Sort.putRow, mapBlock, Sort.ahead, Array.getElem?_modify, Ne.symm e]
    · rw [hw]; rfl
    · rw [hw]; rfl
    · rw [hw]; rfl
  · intro j x v hx hv
    rw [← hc'] at hv
    simp only [putCells, Array.getElem?_mapIdx, Option.map_eq_some_iff, List.size_toArray] at hv
    obtain ⟨v0, hv0, hv⟩ := hv
    by_cases h1 : j < pre.length
    · rw [if_neg (by omega)] at hv
      subst hv
      refine hc3 j x v0 ?_ hv0
      rw [List.append_assoc, List.getElem?_append_left h1] at hx ⊢
      exact hx
    · by_cases h2 : j < pre.length + ys.length
      · rw [if_pos (by omega)] at hv
        subst hv
        rw [List.append_assoc, List.getElem?_append_right (by omega), List.getElem?_append_left (by rw [List.length_map]; omega), List.getElem?_map] at hx
        obtain ⟨y, hy, rfl⟩ := Option.map_eq_some_iff.1 hx
        have e : sh + j - (sh + pre.length) = j - pre.length := by omega
        rw [e, getElem!_pos ys.toArray (j - pre.length) (by simp; omega)]
        have := (List.getElem?_eq_some_iff.1 hy).2
        simp only [List.getElem_toArray]
        rw [this]
        exact .fz (.int .i64 y)
      · rw [if_neg (by omega)] at hv
        subst hv
        refine hc3 j x v0 ?_ hv0
        rw [List.getElem?_append_right (by simp only [List.length_append, List.length_map]; omega)] at hx ⊢
        simp only [List.length_append, List.length_map] at hx ⊢
        rw [hl] at hx
        exact hx
theorem St.holds (h : St B m H N w) {id ver T : Nat} {pre post : List AV} {zs : List Int} {b sh : Nat} (hH : H id = .cells ver T 1 (pre ++ zs.map (AV.int .i64) ++ post)) (hm : m id = some (b, sh)) : Holds (Value.int .i64) w b (sh + pre.length) zs.toArray := by
  obtain ⟨n1, n2, c0, hb, hc2, hc3⟩ := h.own id ver T 1 _ b sh hH hm
  intro j hj
  have hj' : j < zs.length := by simpa using hj
  simp only [List.length_append, List.length_map] at hc2
  have hlt : sh + (pre.length + j) < c0.size := by omega
  have hx : (pre ++ zs.map (AV.int .i64) ++ post)[pre.length + j]? = some (.int .i64 zs[j]) := by
    rw [List.append_assoc, List.getElem?_append_right (by omega), Nat.add_sub_cancel_left, List.getElem?_append_left (by simpa using hj'), List.getElem?_map, List.getElem?_eq_getElem hj']; rfl
  have hr := hc3 (pre.length + j) _ _ hx (Array.getElem?_eq_getElem hlt)
  have hv : c0[sh + (pre.length + j)] = .int .i64 zs[j] := rel_int hr
  refine ⟨?_, by simp [World.frozen?, hb]⟩
  simp only [World.cell?, hb]
  have e : sh + pre.length + j = sh + (pre.length + j) := by omega
  rw [e, Array.getElem?_eq_getElem hlt, hv, getElem!_pos zs.toArray j hj]
  simp
/-- A call that sorts, or the like: a row of numbers of ours is written in place, and a part of it comes back, or nothing. -/
theorem ACall.inplace {T id ver off n k : Nat} {pre post cs : List AV} {zs ys : List Int} {K : AV → Heap → Prop} (he : enters P g = true) (hl : ys.length = zs.length) (hn : n = zs.length) (back : Bool) (hk : k ≤ zs.length)
    (hc : ∀ (b o cap : Nat) (w : World), Holds (Value.int .i64) w b o zs.toArray → b < w.heap.size → zs.length ≤ cap → Calls P g #[.slice (some ⟨b, o, none⟩) zs.length cap] w fun e w' => e = .returned (if back then .slice (some ⟨b, o, none⟩) k cap else .tuple #[]) ∧ ∃ q os, w' = Go.Sort.grow (Go.Sort.putRow (Value.int .i64) (Sort.ahead w q) b o ys.toArray) os)
    (h0 : zs = [] → ∀ A (w : World), Calls P g #[.slice A 0 0] w fun e w' => e = .returned (if back then .slice A 0 0 else .tuple #[]) ∧ ∃ q, w' = Sort.ahead w q)
    (hH : H id = .cells ver T 1 cs) (hcs : cs = pre ++ zs.map (AV.int .i64) ++ post) (hoff : off = pre.length) (hK : K (if back then .ref id ver off k else .tup []) (upd H id (.cells ver T 1 (pre ++ ys.map (AV.int .i64) ++ post)))) : ACall P g [.ref id ver off n] H K := by
  subst hoff hn hcs
  refine ⟨he, fun B m N w vs hS hvs hrel => ?_⟩
  obtain ⟨v, rfl⟩ : ∃ v, vs = #[v] := by
    obtain ⟨l⟩ := vs
    match l with
    | [v] => exact ⟨v, rfl⟩
    | [] => simp at hvs
    | _ :: _ :: _ => simp at hvs
  have hv := hrel 0 _ v rfl rfl
  rcases rel_ref hv hH with ⟨hl0, A, rfl⟩ | ⟨b, sh, cap, c, T', fz, hm, rfl, hcap, hb, hfit⟩
  · have hz : zs = [] := List.eq_nil_of_length_eq_zero hl0
    subst hz
    have hy : ys = [] := List.eq_nil_of_length_eq_zero hl
    subst hy
    have hk0 : k = 0 := by simpa using hk
    subst hk0
    refine (h0 rfl A w).mono fun e w' => ?_
    rintro ⟨rfl, q, rfl⟩
    have hm2 := hS.more (w' := Sort.ahead w q) (Nat.le_refl _) (fun _ _ => rfl) rfl rfl rfl
    have e1 : upd H id (.cells ver T 1 (pre ++ ([] : List Int).map (AV.int .i64) ++ post)) = H := by rw [← hH, upd_self]
    rw [e1] at hK
    refine ⟨_, m, H, N, _, rfl, hK, hm2.1, hm2.2, ?_⟩
    cases back
    · exact .tup [] _ (by simp) (by simp)
    · simp only [if_true]
      cases hv with
      | fz h => cases h
      | ref _ _ _ _ _ o1 hv1 h1 => exact .ref _ _ _ _ _ o1 hv1 fun T sz cs hc => .inl ⟨rfl, A, rfl⟩
  · obtain ⟨n1, n2, c0, hb0, hc2, hc3⟩ := hS.own id ver T 1 _ b sh hH hm
    have hblt : b < w.heap.size := (Array.getElem?_eq_some_iff.1 hb0).1
    refine (hc b (sh + pre.length) cap w (hS.holds hH hm) hblt hcap).mono fun e w' => ?_
    rintro ⟨rfl, q, os, hw⟩
    obtain ⟨hS2, hC2⟩ := hS.putRow hH hm hl hw
    refine ⟨_, m, _, N, _, rfl, hK, hS2, hC2, ?_⟩
    cases back
    · exact .tup [] _ (by simp) (by simp)
    · simp only [if_true]
      obtain ⟨_, _, c2, hb2, hd2, _⟩ := hS2.own id ver T 1 _ b sh (upd_same ..) hm
      refine .ref _ _ _ _ _ rfl (by rw [upd_same]; exact Nat.le_refl _) fun T3 sz3 cs3 hc3 => ?_
      rw [upd_same] at hc3
      injection hc3 with _ _ e3 _
      subst e3
      rw [hb0] at hb
      injection hb with hb; injection hb with hb1 hb3 hb4
      obtain ⟨_, _, hlive⟩ := hC2.live id ver T 1 _ (upd_same ..) |>.resolve_left (by rw [hH]; simp [Blk.ver])
      obtain ⟨c', T1', z', q1, q2⟩ := hlive b sh hm c0 T (0, 0) hb0
      exact .inr ⟨b, sh, cap, c', T1', z', hm, rfl, by omega, q1, by rw [q2, hb1]; exact hfit⟩
/-- A call with frozen values, nil perhaps for an empty slice; frozen values come back. -/
theorem ACall.pureV {args args' : List AV} {K R : AV → Heap → Prop} (hv : Views H (fun _ => false) id (fun _ => false) args args') (h : ACall P g args' H0 R)
    (hK : ∀ r' H', R r' H' → ∃ r, Res (fun _ => false) anyAV H' r' r ∧ r.closed = true ∧ K r H) : ACall P g args H K := by
  refine ACall.lift h [] id (fun _ => false) (fun _ => false) anyAV (by simp) (by simp) (by simp) (by simp) (fun i v T sz cs h => by cases h) (by simp) (by simp) (by simp) (.inl (by simp)) hv ?_
  intro r' H' hR
  obtain ⟨r, h1, h2, h3⟩ := hK r' H' hR
  refine ⟨r, h1, by simp, ?_⟩
  rw [ren_closed id r h2]
  exact h3
/-- The same for a call of which the contract is told with frozen values. -/
theorem ACall.asV {args args' : List AV} {K : AV → Heap → Prop} {r : AV} (hv : Views H (fun _ => false) id (fun _ => false) args args') (h : ACall P g args' H0 fun x _ => x = r) (hr : r.closed = true) (hK : K r H) : ACall P g args H K :=
  ACall.pureV hv h fun r' H' e => by subst e; exact ⟨_, .cl hr, hr, hK⟩
/-- Cells at a block's end are forgotten. -/
theorem St.trim (h : St B m H N w) {id ver T sz : Nat} {cs : List AV} (hH : H id = .cells ver T sz cs) (k : Nat) : St B m (upd H id (.cells ver T sz (cs.take k))) N w ∧ Ch m H N w m (upd H id (.cells ver T sz (cs.take k))) N w := by
  cases hm : m id with
  | none =>
    have hc := h.virt id ver T sz cs hH hm
    have e : upd H id (.cells ver T sz (cs.take k)) = H := by rw [hc, List.take_nil, ← hc, ← hH, upd_self]
    rw [e]
    exact ⟨h, Ch.refl ..⟩
  | some p =>
    obtain ⟨b, sh⟩ := p
    obtain ⟨_, _, c0, hb, hl, hr⟩ := h.own id ver T sz cs b sh hH hm
    have hrow := h.row hH hm hb ver sh (.inl ⟨rfl, rfl⟩) (cs.take k) c0 rfl (by rw [List.length_take]; omega) fun j x u h1 h2 => by
      have hj := (List.getElem?_eq_some_iff.1 h1).1
      rw [List.length_take] at hj
      rw [List.getElem?_take_of_lt (by omega)] at h1
      exact hr j x u h1 h2
    rw [setRow_self w b c0 T (0, 0) hb] at hrow
    have e : upd m id (some (b, sh)) = m := by rw [← hm, upd_self]
    rw [e] at hrow
    exact hrow
theorem ACall.trim {args : List AV} {K R : AV → Heap → Prop} (h : ACall P g args H R) (hK : ∀ r H', R r H' → ∃ id ver T sz cs k, H' id = .cells ver T sz cs ∧ K r (upd H' id (.cells ver T sz (cs.take k)))) : ACall P g args H K := by
  obtain ⟨he, h⟩ := h
  refine ⟨he, fun B m N w vs hS hvs hrel => (h B m N w vs hS hvs hrel).mono fun e w' => ?_⟩
  rintro ⟨u, m', H', N', x, rfl, hR, hS', hC, hx⟩
  obtain ⟨id, ver, T, sz, cs, k, h1, h2⟩ := hK x H' hR
  obtain ⟨hS2, hC2⟩ := hS'.trim h1 k
  exact ⟨u, m', _, N', x, rfl, h2, hS2, hC.trans hC2, hx.ch hC2⟩
end Go.Abs

set_option linter.unusedVariables false
set_option linter.unusedSimpArgs false
namespace Go.Proofs.YteegphdelekdaaaGreat
open Go.Abs Go.IntWalk
set_option maxRecDepth 100000
attribute [local go_sem] eI eU eNs eN cN eChs eCh cCh eCos eCo cCo eP take_map
theorem compact_len (zs : List Int) : (Go.Lib.compact zs).length ≤ zs.length := by
  unfold Go.Lib.compact Go.Lib.compactUpTo
  rw [List.length_map]
  exact Nat.le_trans (List.length_filter_le _ _) (by simp)
/-! slices.Sort and slices.Compact, by the kit's contracts. -/
abbrev leI : Int → Int → Bool := fun x y => decide (x ≤ y)
theorem o_sort {id ver n : Nat} {zs : List Int} {H : Heap} {K : AV → Heap → Prop} (hH : H id = .cells ver 3 1 (zs.map I64)) (hn : n = zs.length) (hl : n ≤ 1000000000)
    (hK : K (.tup []) (upd H id (.cells ver 3 1 ((zs.mergeSort leI).map I64)))) : ACall Tryz.prog 118 [.ref id ver 0 n] H K := by
  refine ACall.inplace (pre := []) (post := []) (zs := zs) (ys := zs.mergeSort leI) (k := 0) (by kernel_rfl) (List.length_mergeSort _) hn false (by omega) ?_ ?_ hH (by simp) rfl (by simpa using hK)
  · intro b o cap w hh hb hc
    exact Any.slices_Sort_int laysSort b o cap zs w hh hb (by omega)
  · intro _ A w
    exact (Any.slices_Sort_int_none laysSort A 0 w).mono fun e w' ⟨h1, h2⟩ => ⟨h1, 0, h2⟩
theorem o_compact {id ver n : Nat} {zs : List Int} {H : Heap} {K : AV → Heap → Prop} (hH : H id = .cells ver 3 1 (zs.map I64)) (hn : n = zs.length) (hl : n ≤ 1000000000)
    (hK : ∀ post, closedL post = true → K (.ref id ver 0 (Go.Lib.compact zs).length) (upd H id (.cells ver 3 1 ((Go.Lib.compact zs).map I64 ++ post)))) : ACall Tryz.prog 119 [.ref id ver 0 n] H K := by
  have hle := compact_len zs
  refine ACall.inplace (pre := []) (post := []) (zs := zs) (ys := Go.Lib.compact zs ++ List.replicate (zs.length - (Go.Lib.compact zs).length) 0) (k := (Go.Lib.compact zs).length) (by kernel_rfl) ?_ hn true hle ?_ ?_ hH (by simp) rfl ?_
  · rw [List.length_append, List.length_replicate]; omega
  · intro b o cap w hh hb hc
    refine (Any.slices_Compact_int laysCompact b o cap zs w hh (by omega) hc).mono fun e w' h => ?_
    obtain ⟨h1, q, h2⟩ := h
    exact ⟨h1, q, #[], by rw [h2, Go.Sort.grow_empty]⟩
  · intro hz A w
    subst hz
    exact (Any.slices_Compact_int_empty laysCompact A 0 w).mono fun e w' ⟨h1, h2⟩ => ⟨h1, 0, h2⟩
  · have := hK ((List.replicate (zs.length - (Go.Lib.compact zs).length) 0).map I64) (cll_map fun _ => rfl)
    simpa using this
theorem t_compact {id ver n : Nat} {zs : List Int} {H : Heap} {K : AV → Heap → Prop} (hH : H id = .cells ver 3 1 (zs.map I64)) (hn : n = zs.length) (hl : n ≤ 1000000000)
    (hK : K (.ref id ver 0 (Go.Lib.compact zs).length) (upd H id (.cells ver 3 1 ((Go.Lib.compact zs).map I64)))) : ACall Tryz.prog 119 [.ref id ver 0 n] H K := by
  refine ACall.trim (R := fun r H' => ∃ post, r = .ref id ver 0 (Go.Lib.compact zs).length ∧ H' = upd H id (.cells ver 3 1 ((Go.Lib.compact zs).map I64 ++ post))) (o_compact hH hn hl fun post _ => ⟨post, rfl, rfl⟩) ?_
  rintro r H' ⟨post, rfl, rfl⟩
  refine ⟨id, ver, 3, 1, _, (Go.Lib.compact zs).length, upd_same .., ?_⟩
  rw [List.take_append_of_le_length (by simp), List.take_of_length_le (by simp), upd_upd]
  exact hK
/-- Both, one behind the other: what stays is increasing. -/
theorem compact_canon (zs : List Int) : Go.Lib.compact (zs.mergeSort leI) = canon zs := compact_sort zs
end Go.Proofs.YteegphdelekdaaaGreat

set_option linter.unusedVariables false
set_option linter.unusedSimpArgs false
namespace Go.Proofs.YteegphdelekdaaaGreat
open Go.Abs Go.IntWalk
set_option maxRecDepth 100000
attribute [local go_sem] eI eU eNs eN cN eChs eCh cCh eCos eCo cCo eP take_map
theorem flI (t : List Int) : (t.map I64).flatMap flat = t.map I64 := flat_map1 (f := I64) (fun _ => rfl) t
theorem scI (t : List Int) : (t.map I64).all AV.scalar = true := sc_map (fun _ => rfl) t
theorem take_end {α : Type} {l : List α} {x : α} {n : Nat} (h : l.length = n) : List.take (n + 1) (l ++ [x]) = l ++ [x] := List.take_of_length_le (by simp [h])
/-- A list of numbers, nil perhaps if it is empty. -/
def IsI (a : AV) (l : List Int) : Prop := (a = .nil ∧ l = []) ∨ a = eI l
theorem c_putL {l : List Int} {x : Int} (hl : l.length ≤ 1000000) {H : Heap} {K : AV → Heap → Prop} (hK : K (eI (ins x l)) H) : ACall Tryz.prog 115 [eI l, I64 x] H K := by
  refine ACall.pure (R := fun r H' => (r = eI (ins x l)) ∨ ∃ v, r = .ref 34 v 0 (ins x l).length ∧ H' 34 = .cells v 3 1 ((ins x l).map I64)) rfl ?_ ?_
  · refine call115 (by simp) ?_
    simp only [Tryz.results115, Tryz.ntmps115, Tryz.f115, Option.getD_some, pl115]
    simp only [go_sem]
    refine ALoop.intro (pl := pl115) (fun k env H => ∃ i : Nat, env 0 = eI l ∧ env 1 = I64 x ∧ env 5 = I64 i ∧ i + k = l.length ∧ ∀ y ∈ l.take i, y < x) l.length (by kernel_rfl) ?_ ?_
    · simp only [go_sem]
      exact ⟨0, by simp⟩
    · rintro k env H ⟨i, e0, e1, e5, hk, ht⟩
      have h0 : (0 : Int) ≤ i := by omega
      have hw : IntKind.wrap .i64 ((i : Int) + 1) = i + 1 := i64_in _ (by omega)
      have hT : List.take i (l.map I64) = (l.take i).map I64 := List.map_take.symm
      have hD : List.drop i (l.map I64) = (l.drop i).map I64 := List.map_drop.symm
      have hti : (l.take i).length = i := by rw [List.length_take]; omega
      have hdi : (l.drop i).length = k := by rw [List.length_drop]; omega
      have hlt : List.take i ((l.take i).map I64) = (l.take i).map I64 := List.take_of_length_le (by rw [List.length_map]; omega)
      have htt : List.take (i + 1) ((l.take i).map I64 ++ [AV.int .i64 x]) = (l.take i).map I64 ++ [AV.int .i64 x] := take_end (by rw [List.length_map, hti])
      by_cases hz : (i : Int) < l.length
      · obtain ⟨y, hy⟩ := get_some (l := l) (i := i) (by omega)
        by_cases hp : y < x
        · simp only [go_sem, pl115, e0, e1, e5, hz, hy, h0, hw, hp]
          refine ⟨k - 1, by omega, i + 1, rfl, by omega, fun z hz => ?_⟩
          rw [take_one hy] at hz
          rcases List.mem_append.1 hz with hz | hz
          · exact ht z hz
          · rw [List.mem_singleton.1 hz]; exact hp
        · have hins := ins_at (n := x) (l := l) (k := i) ht (by omega) (fun z hz => by rw [hy] at hz; cases hz; omega)
          rw [hy] at hins
          by_cases hq : y = x
          · subst hq
            have hpf : ¬ y < y := by omega
            simp only [go_sem, pl115, e0, e1, e5, hz, hy, h0, hw, hpf, decide_false]
            rw [if_pos rfl] at hins
            exact .inl (by rw [hins])
          · rw [if_neg (by simpa using hq)] at hins
            have hq1 : i < l.length := by omega
            have hq2 : (i : Int) ≤ l.length := by omega
            simp only [go_sem, pl115, e0, e1, e5, hz, hy, h0, hw, hp, hq, hq1, hq2, hT, hD, flI, scI, hti, hdi, List.length_map, hlt, htt]
            have hlen : (ins x l).length = i + 1 + k := by rw [hins, List.length_append, List.length_cons, hti, hdi]; omega
            refine ⟨by omega, by omega, by omega, by omega, by omega, .inr ⟨_, by rw [hlen], ?_⟩⟩
            rw [hins, List.map_append, List.map_cons, List.append_assoc]; rfl
      · have hins := ins_at (n := x) (l := l) (k := i) ht (by omega) (fun z hz => by rw [List.getElem?_eq_none (by omega)] at hz; cases hz)
        rw [List.getElem?_eq_none (by omega), if_neg (by simp)] at hins
        have hq2 : (i : Int) ≤ l.length := by omega
        simp only [go_sem, pl115, e0, e1, e5, hz, h0, hw, hq2, hT, hD, flI, scI, hti, hdi, List.length_map, hlt, htt]
        have hlen : (ins x l).length = i + 1 + k := by rw [hins, List.length_append, List.length_cons, hti, hdi]; omega
        refine ⟨by omega, by omega, by omega, by omega, by omega, .inr ⟨_, by rw [hlen], ?_⟩⟩
        rw [hins, List.map_append, List.map_cons, List.append_assoc]; rfl
  · rintro r H' (rfl | ⟨v, rfl, h⟩)
    · exact ⟨_, .cl rfl, rfl, hK⟩
    · exact ⟨_, resI rfl rfl h, rfl, hK⟩
theorem IsI.view {a : AV} {l : List Int} (h : IsI a l) {H : Heap} {L : Nat → Bool} {ρ : Nat → Nat} {β : Nat → Bool} : View H L ρ β a (eI l) := by
  rcases h with ⟨rfl, rfl⟩ | rfl
  · exact .nil 1
  · exact .cl rfl
theorem c_put {a : AV} {l : List Int} {x : Int} (ha : IsI a l) (hl : l.length ≤ 1000000) {H : Heap} {K : AV → Heap → Prop} (hK : K (eI (ins x l)) H) : ACall Tryz.prog 115 [a, I64 x] H K :=
  ACall.asV (.cons _ _ _ _ ha.view (.cons _ _ _ _ (.cl rfl) .nil)) (c_putL hl rfl) rfl hK
end Go.Proofs.YteegphdelekdaaaGreat

set_option linter.unusedVariables false
set_option linter.unusedSimpArgs false
namespace Go.Proofs.YteegphdelekdaaaGreat
open Go.Abs Go.IntWalk
set_option maxRecDepth 100000
attribute [local go_sem] eI eU eNs eN cN eChs eCh cCh eCos eCo cCo eP take_map
/-! The number of a state. -/
def noOf (w : Nat) : List Nat → Nat
  | [] => 0
  | a :: l => a + 2 ^ w * noOf w l
theorem noOf_app {w a : Nat} : ∀ {l : List Nat}, noOf w (l ++ [a]) = noOf w l + 2 ^ (w * l.length) * a
  | [] => by simp [noOf]
  | x :: l => by
    simp only [List.cons_append, noOf, noOf_app (l := l), List.length_cons]
    rw [Nat.mul_add, Nat.mul_add, Nat.mul_one, Nat.add_comm (w * l.length) w, Nat.pow_add, Nat.mul_assoc, Nat.add_assoc]
theorem noOf_lt {w : Nat} : ∀ {l : List Nat}, (∀ x ∈ l, x < 2 ^ w) → noOf w l < 2 ^ (w * l.length)
  | [], _ => by simp [noOf]
  | x :: l, h => by
    have h1 := h x (by simp)
    have h2 := noOf_lt (l := l) fun y hy => h y (by simp [hy])
    simp only [noOf, List.length_cons]
    rw [Nat.mul_add, Nat.mul_one, Nat.add_comm (w * l.length) w, Nat.pow_add]
    have h3 : 2 ^ w * (noOf w l + 1) ≤ 2 ^ w * 2 ^ (w * l.length) := Nat.mul_le_mul_left _ h2
    rw [Nat.mul_add, Nat.mul_one] at h3
    omega
theorem or_i {a b : Nat} (ha : a < 2 ^ 62) (hb : b < 2 ^ 62) : abits .or .i64 (a : Int) (b : Int) = ((a ||| b : Nat) : Int) := by
  have h62 : (2 : Nat) ^ 62 = 4611686018427387904 := by decide
  simp only [abits]
  rw [BitVec.toNat_or, bv_i64 a (by omega), bv_i64 b (by omega)]
  have := or_lt ha hb
  exact i64_nat _ (by omega)
theorem or_add {a b k : Nat} (ha : a < 2 ^ k) : a ||| 2 ^ k * b = a + 2 ^ k * b := by
  rw [Nat.or_comm, ← Nat.two_pow_add_eq_or_of_lt ha, Nat.add_comm]
theorem pow5 {k : Nat} (h : k ≤ 5) : 2 ^ k ≤ 32 := Nat.pow_le_pow_right (by omega) h
theorem shl_i {a k : Nat} (hk : k ≤ 5) (ha : a ≤ 1000000) : IntKind.wrap .i64 ((a : Int) * 2 ^ min k 64) = ((2 ^ k * a : Nat) : Int) := by
  have h5 := pow5 hk
  have h6 : 2 ^ k * a ≤ 32 * 1000000 := Nat.mul_le_mul h5 ha
  rw [Nat.min_eq_left (by omega), pow_cast, ← Int.natCast_mul, Nat.mul_comm]
  exact i64_nat _ (by omega)
theorem c_numI {p : PProg} {w v : Nat} {s : List Nat} (hp : p.1 = w) (hv : p.2.1 = v) (h1 : 1 ≤ w) (hw5 : w ≤ 5) (h5 : w * v ≤ 5) (hs : s.length = v) (hsw : ∀ x ∈ s, x < 2 ^ w) {H : Heap} {K : AV → Heap → Prop} (hK : K (I64 (noOf w s)) H) : ACall Tryz.prog 117 [eP p, eU s] H K := by
  refine pureC rfl rfl ?_ hK
  refine call117 (by simp) ?_
  simp only [Tryz.results117, Tryz.ntmps117, Tryz.f117, Option.getD_some, pl117]
  simp only [go_sem, hp]
  refine ALoop.intro (pl := pl117) (fun k env H => ∃ i v2 : Nat, env 2 = .ptr 2 v2 0 ∧ env 5 = I64 (noOf w (s.take i)) ∧ env 8 = eU s ∧ env 9 = I64 s.length ∧ env 10 = I64 i ∧ H 2 = .cells v2 36 1 [I64 w, I64 p.2.1, eNs p.2.2.1, eCos p.2.2.2] ∧ i + k = s.length) s.length (by kernel_rfl) ?_ ?_
  · simp only [go_sem]
    exact ⟨0, _, rfl, rfl, rfl, rfl, by omega⟩
  · rintro k env H ⟨i, v2, e2, e5, e8, e9, e10, b2, hk⟩
    have hsl : s.length ≤ 5 := by rw [hs]; exact Nat.le_trans (Nat.le_mul_of_pos_left v h1) h5
    by_cases hz : (i : Int) < s.length
    · obtain ⟨x, hx⟩ := get_some (l := s) (i := i) (by omega)
      have h0 : (0 : Int) ≤ i := by omega
      have hm5 := mul_le5 h5 (show i < v by omega)
      have hwi : IntKind.wrap .i64 ((i : Int) + 1) = i + 1 := i64_in _ (by omega)
      have hmw : IntKind.wrap .i64 ((w : Int) * i) = ((w * i : Nat) : Int) := by rw [← Int.natCast_mul]; exact i64_in _ (by omega)
      have hm0 : (0 : Int) ≤ ((w * i : Nat) : Int) := by omega
      have hx5 : x < 2 ^ w := hsw x (List.mem_of_getElem? hx)
      have hw32 := pow5 hw5
      have hxw : IntKind.wrap .i64 (x : Int) = x := i64_in _ (by omega)
      have hsh := shl_i (a := x) hm5 (by omega)
      have hno := noOf_lt (w := w) (l := s.take i) fun y hy => hsw y (List.mem_of_mem_take hy)
      have hti : (s.take i).length = i := by rw [List.length_take]; omega
      rw [hti] at hno
      have hp5 := pow5 hm5
      have h62 : (2 : Nat) ^ 62 = 4611686018427387904 := by decide
      have hmx : 2 ^ (w * i) * x ≤ 32 * 32 := Nat.mul_le_mul hp5 (by omega)
      have hor := or_i (a := noOf w (s.take i)) (b := 2 ^ (w * i) * x) (by omega) (by omega)
      rw [or_add hno] at hor
      simp only [go_sem, pl117, e2, e5, e8, e9, e10, b2, hz, hx, h0, hwi, hmw, hm0, hxw, hsh, hor]
      refine ⟨k - 1, by omega, i + 1, v2, rfl, ?_, rfl, rfl, by omega⟩
      rw [take_one hx, noOf_app, hti]
    · simp only [go_sem, pl117, e2, e5, e8, e9, e10, b2, hz]
      rw [List.take_of_length_le (by omega)]
theorem c_numS {p : PProg} {w v : Nat} {s : List Nat} (hp : p.1 = w) (hv : p.2.1 = v) (h1 : 1 ≤ w) (hw5 : w ≤ 5) (h5 : w * v ≤ 5) (hs : s.length = v) (hsw : ∀ x ∈ s, x < 2 ^ w) {H : Heap} {K : AV → Heap → Prop} (hK : K (I64 (noOf w s)) H) : ACall Tryz.prog 116 [eP p, eU s] H K := by
  refine pureC rfl rfl ?_ hK
  refine call116 (by simp) ?_
  simp only [Tryz.results116, Tryz.ntmps116, Tryz.f116, Option.getD_some, pl116]
  have hsl : s.length ≤ 5 := by rw [hs]; exact Nat.le_trans (Nat.le_mul_of_pos_left v h1) h5
  have hwv : IntKind.wrap .i64 ((v : Int) - 1) = (v : Int) - 1 := i64_in _ (by omega)
  simp only [go_sem, hp, hv, hwv]
  refine ALoop.intro (pl := pl116) (fun k env H => ∃ v2 : Nat, env 1 = eU s ∧ env 2 = .ptr 2 v2 0 ∧ env 5 = I64 (noOf w (s.drop k)) ∧ env 6 = I64 ((k : Int) - 1) ∧ H 2 = .cells v2 36 1 [I64 w, I64 v, eNs p.2.2.1, eCos p.2.2.2] ∧ k ≤ s.length) s.length (by kernel_rfl) ?_ ?_
  · simp only [go_sem]
    exact ⟨_, rfl, by rw [List.drop_of_length_le (Nat.le_refl _)]; rfl, by rw [hs], rfl⟩
  · rintro k env H ⟨v2, e1, e2, e5, e6, b2, hk⟩
    have hpr : env 6 = I64 ((k : Int) - 1) := e6
    by_cases hz : 1 ≤ k
    · obtain ⟨i, rfl⟩ : ∃ i, k = i + 1 := ⟨k - 1, by omega⟩
      have ei : (((i + 1 : Nat) : Int) - 1) = (i : Int) := by omega
      rw [ei] at e6
      obtain ⟨x, hx⟩ := get_some (l := s) (i := i) (by omega)
      have h0 : (0 : Int) ≤ i := by omega
      have hil : (i : Int) < s.length := by omega
      have hwi : IntKind.wrap .i64 ((i : Int) - 1) = i - 1 := i64_in _ (by omega)
      have hwu : IntKind.wrap .u64 (w : Int) = (w : Int) := u64_in _ (by omega)
      have hw0 : (0 : Int) ≤ (w : Int) := by omega
      have hx5 : x < 2 ^ w := hsw x (List.mem_of_getElem? hx)
      have hw32 := pow5 hw5
      have hxw : IntKind.wrap .i64 (x : Int) = x := i64_in _ (by omega)
      have hno := noOf_lt (w := w) (l := s.drop (i + 1)) fun y hy => hsw y (List.mem_of_mem_drop hy)
      rw [List.length_drop] at hno
      have hle : w * (s.length - (i + 1)) ≤ 5 := Nat.le_trans (Nat.mul_le_mul_left w (show s.length - (i + 1) ≤ v by omega)) h5
      have hp5 := pow5 hle
      have hsh := shl_i (a := noOf w (s.drop (i + 1))) hw5 (by omega)
      have hmx : 2 ^ w * noOf w (s.drop (i + 1)) ≤ 32 * 32 := Nat.mul_le_mul hw32 (by omega)
      have hadd : IntKind.wrap .i64 (((2 ^ w * noOf w (s.drop (i + 1)) : Nat) : Int) + x) = ((noOf w (s.drop i) : Nat) : Int) := by
        rw [drop_step hx, noOf, ← Int.natCast_add, Nat.add_comm]
        exact i64_nat _ (by omega)
      simp only [go_sem, pl116, e1, e2, e5, e6, b2, hx, h0, hil, hwi, hwu, hw0, hxw, hsh, hadd]
      exact ⟨i, by omega, v2, rfl, rfl, rfl, rfl, by omega⟩
    · have hk0 : k = 0 := by omega
      subst hk0
      have ei : (((0 : Nat) : Int) - 1) = -1 := by omega
      rw [ei] at e6
      simp only [go_sem, pl116, e1, e2, e5, e6, b2, List.drop_zero]
end Go.Proofs.YteegphdelekdaaaGreat

set_option linter.unusedVariables false
set_option linter.unusedSimpArgs false
namespace Go.Proofs.YteegphdelekdaaaGreat
open Go.Abs Go.IntWalk
set_option maxRecDepth 100000
attribute [local go_sem] eI eU eNs eN cN eChs eCh cCh eCos eCo cCo eP take_map
theorem evalT_lt {w v : Nat} {t : List PNode} {s : List Nat} (hg : kindT (w : Int) (v : Int) t ≠ 0) (hs : s.length = v) (hsw : ∀ x ∈ s, x < 2 ^ w) : evalT w t s < 2 ^ w := by
  have hc := kind_conds hg
  have h1 : 1 ≤ w := by have := hc.1.1; omega
  have hf := run_fits h1 hs hsw t [] _ [] trivial (kind_run hg)
  unfold evalT
  generalize erun w s t [] = vs at hf
  match vs, hf with
  | [x], hf => exact fitsK_lt h1 hf.1
theorem step_lt {w v : Nat} {s : List Nat} (hs : s.length = v) (hsw : ∀ x ∈ s, x < 2 ^ w) : ∀ (l : List PChange) (prev : Int) (out : List Nat), chsOk w v prev l → (∀ x ∈ out, x < 2 ^ w) → ∀ x ∈ stepTo w s l out, x < 2 ^ w := by
  intro l
  induction l with
  | nil => intro prev out _ h; exact h
  | cons c l ih =>
    intro prev out hok h
    rw [chsOk] at hok
    simp only [stepTo]
    refine ih _ _ hok.2.2.2 fun x hx => ?_
    rcases List.mem_or_eq_of_mem_set hx with hx | rfl
    · exact h x hx
    · exact evalT_lt (by rw [hok.2.2.1]; omega) hs hsw
/-! The states behind a state. -/
def nxts (w : Nat) (s : List Nat) : List PCommand → List Int
  | [] => []
  | c :: cs => if evalT w c.1 s = 1 then ((noOf w (stepTo w s c.2 s) : Nat) : Int) :: nxts w s cs else nxts w s cs
theorem nxts_app {w : Nat} {s : List Nat} {c : PCommand} : ∀ {l : List PCommand}, nxts w s (l ++ [c]) = if evalT w c.1 s = 1 then nxts w s l ++ [((noOf w (stepTo w s c.2 s) : Nat) : Int)] else nxts w s l
  | [] => by simp only [List.nil_append, nxts]
  | x :: l => by
    simp only [List.cons_append, nxts, nxts_app (l := l)]
    split <;> split <;> rfl
theorem nxts_len {w : Nat} {s : List Nat} : ∀ {l : List PCommand}, (nxts w s l).length ≤ l.length
  | [] => by simp [nxts]
  | x :: l => by
    simp only [nxts, List.length_cons]
    have := nxts_len (w := w) (s := s) (l := l)
    split
    · rw [List.length_cons]; omega
    · omega
theorem nxts_nil {w : Nat} {s : List Nat} {l : List PCommand} : nxts w s l = [] ↔ ∀ c ∈ l, ¬ evalT w c.1 s = 1 := by
  induction l with
  | nil => simp [nxts]
  | cons c l ih =>
    simp only [nxts]
    split
    · rename_i h; simp [h]
    · rename_i h; simp [h, ih]
theorem nxts_lt {w v : Nat} {s : List Nat} (hs : s.length = v) (hsw : ∀ x ∈ s, x < 2 ^ w) : ∀ {l : List PCommand}, (∀ c ∈ l, cmdOk w v c) → ∀ x ∈ nxts w s l, inN (2 ^ (w * v)) x := by
  intro l
  induction l with
  | nil => simp [nxts]
  | cons c l ih =>
    intro hok x hx
    have key : inN (2 ^ (w * v)) ((noOf w (stepTo w s c.2 s) : Nat) : Int) := by
      have := noOf_lt (step_lt hs hsw c.2 _ s (hok c (by simp)).2 hsw)
      rw [stepTo_len, hs] at this
      unfold inN; omega
    have ih := ih fun c hc => hok c (by simp [hc])
    simp only [nxts] at hx
    split at hx
    · rcases List.mem_cons.1 hx with rfl | hx
      · exact key
      · exact ih x hx
    · exact ih x hx
def nextL (w v : Nat) (cmds : List PCommand) (no : Nat) : List Int := if nxts w (stOf w v no) cmds = [] then [(no : Int)] else canon (nxts w (stOf w v no) cmds)
theorem inc_nextL {w v no : Nat} {cmds : List PCommand} : inc (nextL w v cmds no) := by
  unfold nextL
  split
  · simp [inc]
  · exact inc_canon _
theorem nextL_len {w v no : Nat} {cmds : List PCommand} (h : cmds.length ≤ 6) : (nextL w v cmds no).length ≤ 6 := by
  unfold nextL
  split
  · simp
  · exact Nat.le_trans canon_len (Nat.le_trans nxts_len h)
theorem nextL_in {w v no : Nat} {cmds : List PCommand} (hok : ∀ c ∈ cmds, cmdOk w v c) (h : no < 2 ^ (w * v)) : ∀ x ∈ nextL w v cmds no, inN (2 ^ (w * v)) x := by
  intro x hx
  unfold nextL at hx
  split at hx
  · rw [List.mem_singleton.1 hx]; unfold inN; omega
  · rw [mem_canon] at hx
    exact nxts_lt (stOf_len _ _ _) stOf_lt hok x hx
theorem enab_map {w : Nat} {s : List Nat} {cmds : List PCommand} : ∀ (n : Nat), n ≤ cmds.length → (enab w cmds s n).map (fun k => ((noOf w (stepTo w s ((cmds[k.toNat]?).getD ([], [])).2 s) : Nat) : Int)) = nxts w s (cmds.take n)
  | 0, _ => by simp [enab, nxts]
  | n + 1, hn => by
    obtain ⟨c, hc⟩ := get_some (l := cmds) (i := n) (by omega)
    rw [enab_succ hc, take_one hc, nxts_app]
    split
    · rw [List.map_append, enab_map n (by omega)]
      simp [hc]
    · exact enab_map n (by omega)
theorem c_after {p : PProg} {c : PCommand} {s : List Nat} {w v : Nat} (hp : p.1 = w) (hc : chsOk w v (-1) c.2) (hcl : c.2.length ≤ 1000) (hs : s.length = v) (hv : 1 ≤ v) (hv4 : v ≤ 4) (hsw : ∀ x ∈ s, x < 2 ^ w) {H : Heap} {K : AV → Heap → Prop} (hK : K (eU (stepTo w s c.2 s)) H) : ACall Tryz.prog 112 [eP p, eCo c, eU s] H K := by
  refine ACall.pure rfl (k_after hp hc hcl hs hv hv4 hsw ⟨0, rfl⟩) ?_
  rintro r H' ⟨ver, rfl, h⟩
  exact ⟨_, resU (by rw [stepTo_len]; exact hs.symm) rfl h, rfl, hK⟩
theorem ok_len {wide vars : Int} {c : PCommand} (h : cmdOk wide vars c) (hv : vars ≤ 4) : c.2.length ≤ 1000 := by
  have := fun e => chs_len h.2 e
  by_cases e : c.2 = []
  · rw [e]; simp
  · have := this e; omega
end Go.Proofs.YteegphdelekdaaaGreat

set_option linter.unusedVariables false
set_option linter.unusedSimpArgs false
namespace Go.Proofs.YteegphdelekdaaaGreat
open Go.Abs Go.IntWalk
set_option maxRecDepth 100000
attribute [local go_sem] eI eU eNs eN cN eChs eCh cCh eCos eCo cCo eP take_map
theorem many_eq {p : PProg} {w v : Nat} (e1 : p.1 = w) (e2 : p.2.1 = v) : manyP p = ((2 ^ (w * v) : Nat) : Int) := by
  unfold manyP
  rw [e1, e2, ← Int.natCast_mul, Int.toNat_natCast, pow_cast]
/-- What is known of a small program. -/
structure Sm (p : PProg) (w v : Nat) : Prop where
  small : smallP p
  e1 : p.1 = w
  e2 : p.2.1 = v
  w1 : 1 ≤ w
  v1 : 1 ≤ v
  v4 : v ≤ 4
  w5 : w ≤ 5
  wv : w * v ≤ 5
  ok : ∀ c ∈ p.2.2.2, cmdOk w v c
  len : p.2.2.2.length ≤ 6
  start : kindT (w : Int) (v : Int) p.2.2.1 = 2
  many : manyP p = ((2 ^ (w * v) : Nat) : Int)
  n32 : 2 ^ (w * v) ≤ 32
theorem sm_of {p : PProg} (h : smallP p) : ∃ w v, Sm p w v := by
  obtain ⟨w, v, e1, e2, g1, g2, g3, g4, g5⟩ := small_nat h
  refine ⟨w, v, h, e1, e2, g1, g2, g3, g4, g5, ?_, h.1.2.1.2, ?_, many_eq e1 e2, pow5 g5⟩
  · rw [← e1, ← e2]; exact h.1.2.2
  · rw [← e1, ← e2]; exact h.1.1
theorem c_nextS {p : PProg} {w v no : Nat} (h : Sm p w v) (hno : no < 2 ^ (w * v)) {H : Heap} {K : AV → Heap → Prop} (hK : K (eI (nextL w v p.2.2.2 no)) H) : ACall Tryz.prog 63 [eP p, I64 no] H K := by
  have hn32 := h.n32
  have hcl := h.len
  obtain ⟨small, e1, e2, w1, v1, v4, w5, wv, ok, len, start, many, n32⟩ := h
  generalize hen : enab w p.2.2.2 (stOf w v no) p.2.2.2.length = en
  have hmap := enab_map (w := w) (s := stOf w v no) (cmds := p.2.2.2) p.2.2.2.length (Nat.le_refl _)
  rw [hen, List.take_of_length_le (Nat.le_refl _)] at hmap
  have hel : en.length ≤ 6 := by rw [← hen]; exact Nat.le_trans enab_len len
  generalize hf : (fun k : Int => ((noOf w (stepTo w (stOf w v no) ((p.2.2.2[k.toNat]?).getD ([], [])).2 (stOf w v no)) : Nat) : Int)) = f at hmap
  refine ACall.pure (R := fun r H' => IsI r (nextL w v p.2.2.2 no) ∨ ∃ s ver, r = .ref s ver 0 (nextL w v p.2.2.2 no).length ∧ H' s = .cells ver 3 1 ((nextL w v p.2.2.2 no).map I64)) rfl ?_ ?_
  · refine call63 (by simp) ?_
    simp only [Tryz.results63, Tryz.ntmps63, Tryz.f63, Option.getD_some, pl63]
    simp only [go_sem]
    refine c_stS (p := p) (w := w) (v := v) (no := no) e1 e2 w1 (by omega) v4 wv (by omega) ?_
    simp only [go_sem]
    refine c_enabS (p := p) (w := w) (v := v) small.1 e1 e2 (stOf_len _ _ _) stOf_lt ?_
    rw [hen]
    simp only [go_sem]
    refine ALoop.intro (pl := pl63) (fun k env H => ∃ (i v2 : Nat) (a : AV), env 1 = I64 no ∧ env 2 = .ptr 2 v2 0 ∧ env 5 = eU (stOf w v no) ∧ env 6 = a ∧ env 14 = eI en ∧ env 15 = I64 en.length ∧ env 16 = I64 i ∧ H 2 = .cells v2 36 1 [I64 p.1, I64 p.2.1, eNs p.2.2.1, eCos p.2.2.2] ∧ IsI a (canon ((en.take i).map f)) ∧ i + k = en.length) en.length (by kernel_rfl) ?_ ?_
    · simp only [go_sem]
      exact ⟨0, _, _, rfl, rfl, rfl, rfl, .inl ⟨rfl, rfl⟩, by omega⟩
    · rintro k env H ⟨i, v2, a, t1, t2, t5, t6, t14, t15, t16, b2, ha, hk⟩
      by_cases hz : (i : Int) < en.length
      · obtain ⟨x, hx⟩ := get_some (l := en) (i := i) (by omega)
        have h0 : (0 : Int) ≤ i := by omega
        have hwi : IntKind.wrap .i64 ((i : Int) + 1) = i + 1 := i64_in _ (by omega)
        have hxm := List.mem_of_getElem? hx
        rw [← hen] at hxm
        obtain ⟨hx0, c, hc, hce⟩ := (mem_enab rfl).1 hxm
        obtain ⟨n, rfl⟩ : ∃ n : Nat, x = n := ⟨x.toNat, by omega⟩
        rw [Int.toNat_natCast] at hc
        have hok := ok c (List.mem_of_getElem? hc)
        have hfx : f (n : Int) = ((noOf w (stepTo w (stOf w v no) c.2 (stOf w v no)) : Nat) : Int) := by
          rw [← hf]; simp only [Int.toNat_natCast, hc, Option.getD_some]
        simp only [go_sem, pl63, t1, t2, t5, t6, t14, t15, t16, b2, hz, hx, h0]
        refine c_l7Do (p := p) (c := c) (s := stOf w v no) (w := w) (v := v) (n := n) e1 hc hok.2 (ok_len hok (by omega)) (stOf_len _ _ _) v1 v4 stOf_lt ?_
        simp only [go_sem, pl63, t1, t2, t5, t6, t14, t15, t16, b2, hz, hx, h0]
        refine c_numS (p := p) (w := w) (v := v) e1 e2 w1 w5 wv (by rw [stepTo_len, stOf_len]) (step_lt (stOf_len _ _ _) stOf_lt _ _ _ hok.2 stOf_lt) ?_
        rw [← hfx]
        simp only [go_sem, pl63, t1, t2, t5, t6, t14, t15, t16, b2, hz, hx, h0]
        have hcn : (canon ((en.take i).map f)).length ≤ 6 := Nat.le_trans canon_len (by rw [List.length_map, List.length_take]; omega)
        refine c_put (x := f (n : Int)) ha (by omega) ?_
        simp only [go_sem, pl63, t1, t2, t5, t6, t14, t15, t16, b2, hz, hx, h0, hwi]
        refine ⟨k - 1, by omega, i + 1, v2, _, rfl, rfl, rfl, rfl, .inr ?_, by omega⟩
        rw [take_one hx, List.map_append, List.map_singleton, canon_app]
        rfl
      · rw [List.take_of_length_le (by omega), hmap] at ha
        by_cases hn : nxts w (stOf w v no) p.2.2.2 = []
        · have z0 : ((0 : Nat) : Int) = 0 := rfl
          have hl : nextL w v p.2.2.2 no = [(no : Int)] := by unfold nextL; rw [if_pos hn]
          rw [hn] at ha
          rcases ha with ⟨rfl, _⟩ | rfl
          · simp only [go_sem, pl63, t1, t2, t5, t6, t14, t15, t16, b2, hz]
            exact .inr ⟨33, _, by rw [hl]; rfl, by rw [hl]; rfl⟩
          · simp only [go_sem, pl63, t1, t2, t5, t6, t14, t15, t16, b2, hz, canon_nil, z0]
            exact .inr ⟨33, _, by rw [hl]; rfl, by rw [hl]; rfl⟩
        · have hl : nextL w v p.2.2.2 no = canon (nxts w (stOf w v no) p.2.2.2) := by unfold nextL; rw [if_neg hn]
          rw [hl]
          rcases ha with ⟨rfl, h2⟩ | rfl
          · have : ∀ x, x ∈ nxts w (stOf w v no) p.2.2.2 → False := fun x hx => by rw [← mem_canon, h2] at hx; simp at hx
            exact absurd (List.eq_nil_iff_forall_not_mem.2 this) hn
          · have hne : ¬ ((canon (nxts w (stOf w v no) p.2.2.2)).length : Int) = 0 := by
              intro e
              have e2 := List.eq_nil_of_length_eq_zero (show (canon (nxts w (stOf w v no) p.2.2.2)).length = 0 by omega)
              have : ∀ x, x ∈ nxts w (stOf w v no) p.2.2.2 → False := fun x hx => by rw [← mem_canon, e2] at hx; simp at hx
              exact hn (List.eq_nil_iff_forall_not_mem.2 this)
            simp only [go_sem, pl63, t1, t2, t5, t6, t14, t15, t16, b2, hz, hne]
            exact .inl (.inr rfl)
  · rintro r H' (hr | ⟨s, ver, rfl, hr⟩)
    · rcases hr with ⟨rfl, e⟩ | rfl
      · rw [e] at hK
        exact ⟨_, .frz _ _ (.nil 1), rfl, hK⟩
      · exact ⟨_, .cl rfl, rfl, hK⟩
    · exact ⟨_, resI rfl rfl hr, rfl, hK⟩
theorem k_nextI {p : PProg} {w v no : Nat} (h : Sm p w v) (hno : no < 2 ^ (w * v)) {H : Heap} : ACall Tryz.prog 65 [eP p, I64 no] H fun r H' => ∃ s ver, s < 1000000 ∧ r = .ref s ver 0 (nextL w v p.2.2.2 no).length ∧ H' s = .cells ver 3 1 ((nextL w v p.2.2.2 no).map I64) := by
  have hn32 := h.n32
  have hcl := h.len
  obtain ⟨small, e1, e2, w1, v1, v4, w5, wv, ok, len, start, many, n32⟩ := h
  refine call65 (by simp) ?_
  simp only [Tryz.results65, Tryz.ntmps65, Tryz.f65, Option.getD_some, pl65]
  simp only [go_sem]
  refine c_stI (p := p) (w := w) (v := v) (no := no) e1 e2 w1 (by omega) v4 wv (by omega) ?_
  simp only [go_sem]
  refine ALoop.intro (pl := pl65) (fun k env H => ∃ (i v2 sv : Nat), env 1 = I64 no ∧ env 2 = .ptr 2 v2 0 ∧ env 5 = eU (stOf w v no) ∧ env 6 = .ref 12 sv 0 (nxts w (stOf w v no) (p.2.2.2.take i)).length ∧ env 14 = eCos p.2.2.2 ∧ env 15 = I64 p.2.2.2.length ∧ env 16 = I64 i ∧ H 2 = .cells v2 36 1 [I64 p.1, I64 p.2.1, eNs p.2.2.1, eCos p.2.2.2] ∧ H 12 = .cells sv 3 1 ((nxts w (stOf w v no) (p.2.2.2.take i)).map I64) ∧ i + k = p.2.2.2.length) p.2.2.2.length (by kernel_rfl) ?_ ?_
  · simp only [go_sem]
    exact ⟨0, _, _, rfl, rfl, rfl, rfl, rfl, by omega⟩
  · rintro k env H ⟨i, v2, sv, t1, t2, t5, t6, t14, t15, t16, b2, b12, hk⟩
    have hwi : IntKind.wrap .i64 ((i : Int) + 1) = i + 1 := i64_in _ (by omega)
    have hle := nxts_len (w := w) (s := stOf w v no) (l := p.2.2.2.take i)
    rw [List.length_take] at hle
    by_cases hz : (i : Int) < p.2.2.2.length
    · have h0 : (0 : Int) ≤ i := by omega
      obtain ⟨x, hx⟩ := get_some (l := p.2.2.2) (i := i) (by omega)
      have hok := ok x (List.mem_of_getElem? hx)
      have hsucc := nxts_app (w := w) (s := stOf w v no) (c := x) (l := p.2.2.2.take i)
      rw [← take_one hx] at hsucc
      simp only [go_sem, pl65, t1, t2, t5, t6, t14, t15, t16, b2, b12, hz, h0, hx]
      refine c_holdsI (p := p) (w := w) (vars := v) (t := x.1) (s := stOf w v no) e1 (by rw [hok.1]; omega) (stOf_len _ _ _) stOf_lt ?_
      by_cases hh : evalT w x.1 (stOf w v no) = 1
      · rw [if_pos hh] at hsucc
        simp only [go_sem, pl65, t1, t2, t5, t6, t14, t15, t16, b2, b12, hh, hwi]
        refine c_after (p := p) (c := x) (s := stOf w v no) (w := w) (v := v) e1 hok.2 (ok_len hok (by omega)) (stOf_len _ _ _) v1 v4 stOf_lt ?_
        simp only [go_sem, pl65, t1, t2, t5, t6, t14, t15, t16, b2, b12, hh, hwi]
        refine c_numI (p := p) (w := w) (v := v) e1 e2 w1 w5 wv (by rw [stepTo_len, stOf_len]) (step_lt (stOf_len _ _ _) stOf_lt _ _ _ hok.2 stOf_lt) ?_
        simp only [go_sem, pl65, t1, t2, t5, t6, t14, t15, t16, b2, b12, hh, hwi]
        refine ⟨by omega, k - 1, by omega, i + 1, v2, sv + 1, rfl, ?_, rfl, rfl, ?_, by omega⟩
        · rw [hsucc, List.length_append]; rfl
        · rw [hsucc, List.map_append]; rfl
      · rw [if_neg hh] at hsucc
        simp only [go_sem, pl65, t1, t2, t5, t6, t14, t15, t16, b2, b12, hh, hwi]
        exact ⟨k - 1, by omega, i + 1, v2, sv, rfl, by rw [hsucc], rfl, rfl, by rw [hsucc], by omega⟩
    · have hT : p.2.2.2.take i = p.2.2.2 := List.take_of_length_le (by omega)
      rw [hT] at t6 b12 hle
      by_cases hn : nxts w (stOf w v no) p.2.2.2 = []
      · have z0 : ((0 : Nat) : Int) = 0 := rfl
        have hl : nextL w v p.2.2.2 no = [(no : Int)] := by unfold nextL; rw [if_pos hn]
        rw [hn] at t6 b12
        simp only [go_sem, pl65, t1, t2, t5, t6, t14, t15, t16, b2, b12, hz, z0]
        exact ⟨39, _, by omega, by rw [hl]; rfl, by rw [hl]; rfl⟩
      · have hl : nextL w v p.2.2.2 no = canon (nxts w (stOf w v no) p.2.2.2) := by unfold nextL; rw [if_neg hn]
        have hne : ¬ ((nxts w (stOf w v no) p.2.2.2).length : Int) = 0 := fun e => hn (List.eq_nil_of_length_eq_zero (by omega))
        simp only [go_sem, pl65, t1, t2, t5, t6, t14, t15, t16, b2, b12, hz, hne]
        refine o_sort (zs := nxts w (stOf w v no) p.2.2.2) (by simp only [go_sem, b12]) rfl (by omega) ?_
        simp only [go_sem, pl65, t1, t2, t5, t6, t14, t15, t16, b2, b12, hz, hne]
        refine t_compact (zs := (nxts w (stOf w v no) p.2.2.2).mergeSort leI) (by simp only [go_sem]) (List.length_mergeSort _).symm (by omega) ?_
        rw [compact_canon]
        simp only [go_sem, pl65, t1, t2, t5, t6, t14, t15, t16, b2, b12, hz, hne]
        exact ⟨12, _, by omega, by rw [hl], by rw [hl]; rfl⟩
theorem c_nextI {p : PProg} {w v no : Nat} (h : Sm p w v) (hno : no < 2 ^ (w * v)) {H : Heap} {K : AV → Heap → Prop} (hK : K (eI (nextL w v p.2.2.2 no)) H) : ACall Tryz.prog 65 [eP p, I64 no] H K := by
  refine ACall.pure rfl (k_nextI h hno) ?_
  rintro r H' ⟨s, ver, _, rfl, hr⟩
  exact ⟨_, resI rfl rfl hr, rfl, hK⟩
end Go.Proofs.YteegphdelekdaaaGreat
