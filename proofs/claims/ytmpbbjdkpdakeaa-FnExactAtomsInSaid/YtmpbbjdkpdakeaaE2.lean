/- Texts of ours, joined: YtmpbbjdkpdakeaaG1 YtmpbbjdkpdakeaaAbsY. -/
import Derived.Lib.SlicesCompact
import Derived.Test.YtmpbbjdkpdakeaaAbs3
import Derived.Sort.Row
import Derived.Sort.Grow
set_option linter.unusedVariables false
set_option linter.unusedSimpArgs false
namespace Go.Proofs.Ytmpbbjdkpdakeaa
/-! Increasing lists of numbers. -/
def inc (l : List Int) : Prop := l.Pairwise (· < ·)
theorem inc_ext : ∀ {a b : List Int}, inc a → inc b → (∀ x, x ∈ a ↔ x ∈ b) → a = b
  | [], [], _, _, _ => rfl
  | [], y :: b, _, _, h => by have := (h y).2 (by simp); simp at this
  | x :: a, [], _, _, h => by have := (h x).1 (by simp); simp at this
  | x :: a, y :: b, ha, hb, h => by
    obtain ⟨h1, h2⟩ := List.pairwise_cons.1 ha
    obtain ⟨h3, h4⟩ := List.pairwise_cons.1 hb
    have e : x = y := by
      rcases List.mem_cons.1 ((h x).1 (by simp)) with e | e
      · exact e
      · rcases List.mem_cons.1 ((h y).2 (by simp)) with f | f
        · exact f.symm
        · have := h1 y f; have := h3 x e; omega
    subst e
    rw [inc_ext h2 h4 fun z => ?_]
    constructor
    · intro hz
      rcases List.mem_cons.1 ((h z).1 (by simp [hz])) with e | e
      · have := h1 z hz; omega
      · exact e
    · intro hz
      rcases List.mem_cons.1 ((h z).2 (by simp [hz])) with e | e
      · have := h3 z hz; omega
      · exact e
/-- A number put to its place, once. -/
def ins (n : Int) : List Int → List Int
  | [] => [n]
  | x :: l => if x < n then x :: ins n l else if x = n then x :: l else n :: x :: l
theorem mem_ins {n z : Int} : ∀ {l : List Int}, z ∈ ins n l ↔ z = n ∨ z ∈ l
  | [] => by simp [ins]
  | x :: l => by
    unfold ins
    split
    · rw [List.mem_cons, mem_ins, List.mem_cons]
      exact ⟨fun h => h.elim (fun h => .inr (.inl h)) fun h => h.elim .inl fun h => .inr (.inr h), fun h => h.elim (fun h => .inr (.inl h)) fun h => h.elim .inl fun h => .inr (.inr h)⟩
    · split
      · rename_i h; subst h; simp
      · simp
theorem inc_ins {n : Int} : ∀ {l : List Int}, inc l → inc (ins n l)
  | [], _ => by simp [ins, inc]
  | x :: l, h => by
    obtain ⟨h1, h2⟩ := List.pairwise_cons.1 h
    unfold ins
    split
    · refine List.pairwise_cons.2 ⟨fun z hz => ?_, inc_ins h2⟩
      rcases mem_ins.1 hz with rfl | hz
      · assumption
      · exact h1 z hz
    · split
      · exact h
      · refine List.pairwise_cons.2 ⟨fun z hz => ?_, h⟩
        rcases List.mem_cons.1 hz with rfl | hz
        · omega
        · have := h1 z hz; omega
theorem ins_len {n : Int} : ∀ {l : List Int}, (ins n l).length ≤ l.length + 1
  | [] => by simp [ins]
  | x :: l => by
    unfold ins
    split
    · simp only [List.length_cons]; have := ins_len (n := n) (l := l); omega
    · split <;> simp
theorem len_ins {n : Int} : ∀ {l : List Int}, l.length ≤ (ins n l).length
  | [] => by simp [ins]
  | x :: l => by
    unfold ins
    split
    · simp only [List.length_cons]; have := len_ins (n := n) (l := l); omega
    · split <;> simp
/-- How it is put: where the place is. -/
theorem ins_at {n : Int} : ∀ {l : List Int} {k : Nat}, (∀ x ∈ l.take k, x < n) → k ≤ l.length → (∀ y, l[k]? = some y → n ≤ y) → ins n l = if l[k]? = some n then l else l.take k ++ n :: l.drop k
  | [], k, _, hk, _ => by have : k = 0 := by simpa using hk
                          subst this; simp [ins]
  | x :: l, 0, _, _, h => by
    have := h x rfl
    unfold ins
    rw [if_neg (by omega)]
    simp only [List.getElem?_cons_zero, Option.some.injEq, List.take_zero, List.drop_zero, List.nil_append]
  | x :: l, k + 1, h1, h2, h3 => by
    have hx : x < n := h1 x (by simp)
    unfold ins
    rw [if_pos hx, ins_at (l := l) (k := k) (fun y hy => h1 y (by simp [hy])) (by simpa using h2) (fun y hy => h3 y (by simpa using hy))]
    simp only [List.getElem?_cons_succ, List.take_succ_cons, List.drop_succ_cons]
    split <;> simp
/-- The numbers of a list, increasing. -/
def canon (l : List Int) : List Int := l.foldl (fun a x => ins x a) []
theorem foldl_ins {l a : List Int} (ha : inc a) : inc (l.foldl (fun a x => ins x a) a) ∧ ∀ z, z ∈ l.foldl (fun a x => ins x a) a ↔ z ∈ a ∨ z ∈ l := by
  induction l generalizing a with
  | nil => exact ⟨ha, by simp⟩
  | cons x l ih =>
    obtain ⟨h1, h2⟩ := ih (a := ins x a) (inc_ins ha)
    refine ⟨h1, fun z => ?_⟩
    rw [List.foldl_cons, h2, mem_ins, List.mem_cons]
    exact ⟨fun h => h.elim (fun h => h.elim (fun h => .inr (.inl h)) .inl) fun h => .inr (.inr h), fun h => h.elim (fun h => .inl (.inr h)) fun h => h.elim (fun h => .inl (.inl h)) .inr⟩
theorem inc_canon (l : List Int) : inc (canon l) := (foldl_ins List.Pairwise.nil).1
theorem mem_canon {l : List Int} {z : Int} : z ∈ canon l ↔ z ∈ l := by rw [canon, (foldl_ins List.Pairwise.nil).2]; simp
theorem canon_app {l : List Int} {x : Int} : canon (l ++ [x]) = ins x (canon l) := by simp [canon, List.foldl_append]
theorem canon_nil : canon [] = [] := rfl
theorem canon_len : ∀ {l : List Int}, (canon l).length ≤ l.length := by
  intro l
  have : ∀ (l a : List Int), (l.foldl (fun a x => ins x a) a).length ≤ a.length + l.length := by
    intro l
    induction l with
    | nil => intro a; simp
    | cons x l ih => intro a; rw [List.foldl_cons, List.length_cons]; have := ih (ins x a); have := ins_len (n := x) (l := a); omega
  have := this l []
  simpa [canon] using this
theorem canon_eq {a b : List Int} (hb : inc b) (h : ∀ x, x ∈ a ↔ x ∈ b) : canon a = b := inc_ext (inc_canon a) hb fun x => by rw [mem_canon]; exact h x
theorem canon_of {a b : List Int} (h : ∀ x, x ∈ a ↔ x ∈ b) : canon a = canon b := canon_eq (inc_canon b) fun x => by rw [mem_canon]; exact h x
theorem canon_inc {a : List Int} (h : inc a) : canon a = a := canon_eq h fun _ => Iff.rfl
theorem inc_len {l : List Int} {n : Nat} (h : inc l) (hb : ∀ x ∈ l, 0 ≤ x ∧ x < n) : l.length ≤ n := by
  have key : ∀ (l : List Int) (a : Int), inc l → (∀ x ∈ l, a ≤ x ∧ x < n) → a ≤ n → (l.length : Int) + a ≤ n := by
    intro l
    induction l with
    | nil => intro a _ _ ha; simpa using ha
    | cons x l ih =>
      intro a h hb ha
      obtain ⟨h1, h2⟩ := List.pairwise_cons.1 h
      have h3 := hb x (by simp)
      have := ih (x + 1) h2 (fun y hy => ⟨by have := h1 y hy; omega, (hb y (by simp [hy])).2⟩) (by omega)
      simp only [List.length_cons]; omega
  have := key l 0 h hb (by omega)
  omega
/-- Sorting, then compacting. -/
theorem comp_sorted {d : Array Int} (hs : ∀ j, 0 < j → j < d.size → d[j - 1]! ≤ d[j]!) : ∀ m, m ≤ d.size → inc (Go.Lib.compactUpTo d m) ∧ (∀ x ∈ Go.Lib.compactUpTo d m, x ≤ d[m - 1]!) ∧ ∀ x, x ∈ Go.Lib.compactUpTo d m ↔ ∃ j, j < m ∧ d[j]! = x := by
  intro m
  induction m with
  | zero => intro _; simp [Go.Lib.compactUpTo, inc]
  | succ m ih =>
    intro hm
    obtain ⟨h1, h2, h3⟩ := ih (by omega)
    rw [Go.Lib.compactUpTo_succ]
    by_cases h0 : m = 0
    · subst h0
      have hk : Go.Lib.keeps d 0 = true := by simp [Go.Lib.keeps]
      rw [if_pos hk]
      have he : Go.Lib.compactUpTo d 0 = [] := by simp [Go.Lib.compactUpTo]
      rw [he]
      refine ⟨by simp [inc], by simp, fun x => ?_⟩
      simp only [List.nil_append, List.mem_singleton]
      exact ⟨fun h => ⟨0, by omega, h.symm⟩, fun ⟨j, hj, e⟩ => by rw [← e, show j = 0 by omega]⟩
    have hle := hs m (by omega) (by omega)
    by_cases hk : d[m]! = d[m - 1]!
    · rw [Go.Lib.keeps_neg (by omega) hk]
      simp only [Bool.false_eq_true, if_false, List.append_nil, Nat.add_sub_cancel]
      refine ⟨h1, fun x hx => by rw [hk]; exact h2 x hx, fun x => ?_⟩
      rw [h3]
      exact ⟨fun ⟨j, hj, e⟩ => ⟨j, by omega, e⟩, fun ⟨j, hj, e⟩ => by
        by_cases hjm : j = m
        · exact ⟨m - 1, by omega, by rw [← hk, ← hjm]; exact e⟩
        · exact ⟨j, by omega, e⟩⟩
    · rw [Go.Lib.keeps_pos hk, if_pos rfl, Nat.add_sub_cancel]
      refine ⟨?_, fun x hx => ?_, fun x => ?_⟩
      · refine List.pairwise_append.2 ⟨h1, by simp, fun a ha b hb => ?_⟩
        rw [List.mem_singleton.1 hb]
        have := h2 a ha
        omega
      · rcases List.mem_append.1 hx with hx | hx
        · have := h2 x hx; omega
        · rw [List.mem_singleton.1 hx]; exact Int.le_refl _
      · rw [List.mem_append, h3, List.mem_singleton]
        constructor
        · rintro (⟨j, hj, e⟩ | e)
          · exact ⟨j, by omega, e⟩
          · exact ⟨m, by omega, e.symm⟩
        · rintro ⟨j, hj, e⟩
          by_cases hjm : j = m
          · exact .inr (by rw [← e, hjm])
          · exact .inl ⟨j, by omega, e⟩
theorem compact_sort (l : List Int) : Go.Lib.compact (l.mergeSort fun x y => decide (x ≤ y)) = canon l := by
  have hp := List.mergeSort_perm l (fun x y => decide (x ≤ y))
  have hs := List.pairwise_mergeSort (le := fun x y : Int => decide (x ≤ y)) (fun a b c h1 h2 => by simp at *; omega) (fun a b => by simp; omega) l
  generalize hm : l.mergeSort (fun x y => decide (x ≤ y)) = zs at *
  have hs' : ∀ j, 0 < j → j < zs.toArray.size → zs.toArray[j - 1]! ≤ zs.toArray[j]! := by
    intro j h0 hj
    have hj' : j < zs.length := by simpa using hj
    rw [getElem!_pos zs.toArray j hj, getElem!_pos zs.toArray (j - 1) (by simp; omega)]
    have := List.pairwise_iff_getElem.1 hs (j - 1) j (by omega) hj' (by omega)
    simpa using this
  obtain ⟨h1, _, h3⟩ := comp_sorted hs' zs.length (by simp)
  refine (canon_eq h1 fun x => ?_).symm
  rw [← hp.mem_iff]
  show x ∈ zs ↔ x ∈ Go.Lib.compactUpTo zs.toArray zs.length
  rw [h3]
  constructor
  · intro hx
    obtain ⟨j, hj, e⟩ := List.getElem_of_mem hx
    exact ⟨j, hj, by rw [getElem!_pos zs.toArray j (by simpa using hj)]; simpa using e⟩
  · rintro ⟨j, hj, e⟩
    rw [getElem!_pos zs.toArray j (by simpa using hj)] at e
    rw [← e]; simp
end Go.Proofs.Ytmpbbjdkpdakeaa

/- The abstract machine, part Y: a function of the library that writes one row of numbers in place. -/
set_option linter.unusedVariables false
set_option linter.unusedSimpArgs false
namespace Go.Abs
open Go.Sort
variable {P : Program} {g : FuncId} {B : Base} {m : Nat → Option (Nat × Nat)} {H : Heap} {N : Nat → Prop} {w w' : World}
/-- The same memory, and more. -/
theorem St.more (h : St B m H N w) (hs : w.heap.size ≤ w'.heap.size) (hb : ∀ b, b < w.heap.size → w'.heap[b]? = w.heap[b]?) (ho : w'.os = w.os) (ht : w'.tape = w.tape) (hu : w'.output = w.output) : St B m H N w' ∧ Ch m H N w m H N w' := by
  have hk : Keeps (fun _ => False) w w' := ⟨hs, fun b h1 _ => hb b h1, ho, ht, hu⟩
  have hk2 : Keeps N w w' := ⟨hs, fun b h1 _ => hb b h1, ho, ht, hu⟩
  have lt : ∀ {b : Nat} {o : Obj}, w.heap[b]? = some o → b < w.heap.size := fun h => (Array.getElem?_eq_some_iff.1 h).1
  have hc : Ch m H N w m H N w' := ⟨fun a v hf => hf.keeps hk2 (fun _ _ h => h), fun _ => Nat.le_refl _, fun id ver T sz cs hl => .inr ⟨⟨T, cs, hl⟩, rfl, fun b sh _ c T1 z h1 => ⟨c, T1, z, by rw [hb b (lt h1)]; exact h1, rfl⟩⟩⟩
  refine ⟨⟨h.keep.trans hk (fun _ _ h => h.elim), fun b hN => Nat.lt_of_lt_of_le (h.nlt b hN) hs, h.n0, h.n0lt, h.nfresh, h.fresh, h.orig, h.inj, ?_, h.virt⟩, hc⟩
  intro i ver T sz cs b sh h1 h2
  obtain ⟨a1, a2, c, a3, a4, a5⟩ := h.own i ver T sz cs b sh h1 h2
  exact ⟨a1, a2, c, by rw [hb b (lt a3)]; exact a3, a4, fun j x v hx hv => (a5 j x v hx hv).ch hc⟩
/-- One row of a block of ours is written. -/
theorem St.putRow (h : St B m H N w) {id ver T : Nat} {pre post : List AV} {zs ys : List Int} {b sh n : Nat} {os : Array Obj} (hH : H id = .cells ver T 1 (pre ++ zs.map (AV.int .i64) ++ post)) (hm : m id = some (b, sh)) (hl : ys.length = zs.length)
    (hw : w' = Go.Sort.grow (Go.Sort.putRow (Value.int .i64) (Sort.ahead w n) b (sh + pre.length) ys.toArray) os) :
    St B m (upd H id (.cells ver T 1 (pre ++ ys.map (AV.int .i64) ++ post))) N w' ∧ Ch m H N w m (upd H id (.cells ver T 1 (pre ++ ys.map (AV.int .i64) ++ post))) N w' := by
  obtain ⟨n1, n2, c0, hb, hc2, hc3⟩ := h.own id ver T 1 _ b sh hH hm
  have hblt : b < w.heap.size := (Array.getElem?_eq_some_iff.1 hb).1
  generalize hc' : putCells (Value.int .i64) (sh + pre.length) ys.toArray c0 = c'
  have hs : c'.size = c0.size := by rw [← hc']; simp [putCells]
  simp only [List.length_append, List.length_map] at hc2
  have hrow := h.row hH hm hb ver sh (.inl ⟨rfl, rfl⟩) (pre ++ ys.map (AV.int .i64) ++ post) c' hs (by simp only [List.length_append, List.length_map]; omega) ?_
  · have e : upd m id (some (b, sh)) = m := by rw [← hm, upd_self]
    rw [e] at hrow
    obtain ⟨hS1, hC1⟩ := hrow
    have hm2 := hS1.more (w' := w') ?_ ?_ ?_ ?_ ?_
    · exact ⟨hm2.1, hC1.trans hm2.2⟩
    · rw [hw]; simp [Go.Sort.grow, Go.Sort.putRow, mapBlock, Sort.ahead]
    · intro k hk
      have hk' : k < w.heap.size := by simpa using hk
      rw [hw]
      have e1 : (Go.Sort.grow (Go.Sort.putRow (Value.int .i64) (Sort.ahead w n) b (sh + pre.length) ys.toArray) os).heap[k]? = (Go.Sort.putRow (Value.int .i64) (Sort.ahead w n) b (sh + pre.length) ys.toArray).heap[k]? := by
        simp only [Go.Sort.grow]
        rw [Array.getElem?_append_left (by simp [Go.Sort.putRow, mapBlock, Sort.ahead]; exact hk')]
      rw [e1]
      by_cases e : k = b
      · subst e
        rw [setRow_heap w k c0 c' T (0, 0) hb, ← hc']
        simp [Go.Sort.putRow, mapBlock, Sort.ahead, Array.getElem?_modify, hb, onCells]
      · rw [setRow_other w b k c' e]
        simp [Go.Sort.putRow, mapBlock, Sort.ahead, Array.getElem?_modify, Ne.symm e]
    · rw [hw]; rfl
    · rw [hw]; rfl
    · rw [hw]; rfl
  · intro j x v hx hv
    rw [← hc'] at hv
    simp only [putCells, Array.getElem?_mapIdx, Option.map_eq_some_iff, List.size_toArray] at hv
    obtain ⟨v0, hv0, hv⟩ := hv
    by_cases h1 : j < pre.length
    · rw [if_neg (by omega)] at hv
      subst hv
      refine hc3 j x v0 ?_ hv0
      rw [List.append_assoc, List.getElem?_append_left h1] at hx ⊢
      exact hx
    · by_cases h2 : j < pre.length + ys.length
      · rw [if_pos (by omega)] at hv
        subst hv
        rw [List.append_assoc, List.getElem?_append_right (by omega), List.getElem?_append_left (by rw [List.length_map]; omega), List.getElem?_map] at hx
        obtain ⟨y, hy, rfl⟩ := Option.map_eq_some_iff.1 hx
        have e : sh + j - (sh + pre.length) = j - pre.length := by omega
        rw [e, getElem!_pos ys.toArray (j - pre.length) (by simp; omega)]
        have := (List.getElem?_eq_some_iff.1 hy).2
        simp only [List.getElem_toArray]
        rw [this]
        exact .fz (.int .i64 y)
      · rw [if_neg (by omega)] at hv
        subst hv
        refine hc3 j x v0 ?_ hv0
        rw [List.getElem?_append_right (by simp only [List.length_append, List.length_map]; omega)] at hx ⊢
        simp only [List.length_append, List.length_map] at hx ⊢
        rw [hl] at hx
        exact hx
theorem St.holds (h : St B m H N w) {id ver T : Nat} {pre post : List AV} {zs : List Int} {b sh : Nat} (hH : H id = .cells ver T 1 (pre ++ zs.map (AV.int .i64) ++ post)) (hm : m id = some (b, sh)) : Holds (Value.int .i64) w b (sh + pre.length) zs.toArray := by
  obtain ⟨n1, n2, c0, hb, hc2, hc3⟩ := h.own id ver T 1 _ b sh hH hm
  intro j hj
  have hj' : j < zs.length := by simpa using hj
  simp only [List.length_append, List.length_map] at hc2
  have hlt : sh + (pre.length + j) < c0.size := by omega
  have hx : (pre ++ zs.map (AV.int .i64) ++ post)[pre.length + j]? = some (.int .i64 zs[j]) := by
    rw [List.append_assoc, List.getElem?_append_right (by omega), Nat.add_sub_cancel_left, List.getElem?_append_left (by simpa using hj'), List.getElem?_map, List.getElem?_eq_getElem hj']; rfl
  have hr := hc3 (pre.length + j) _ _ hx (Array.getElem?_eq_getElem hlt)
  have hv : c0[sh + (pre.length + j)] = .int .i64 zs[j] := rel_int hr
  refine ⟨?_, by simp [World.frozen?, hb]⟩
  simp only [World.cell?, hb]
  have e : sh + pre.length + j = sh + (pre.length + j) := by omega
  rw [e, Array.getElem?_eq_getElem hlt, hv, getElem!_pos zs.toArray j hj]
  simp
/-- A call that sorts, or the like: a row of numbers of ours is written in place, and a part of it comes back, or nothing. -/
theorem ACall.inplace {T id ver off n k : Nat} {pre post cs : List AV} {zs ys : List Int} {K : AV → Heap → Prop} (he : enters P g = true) (hl : ys.length = zs.length) (hn : n = zs.length) (back : Bool) (hk : k ≤ zs.length)
    (hc : ∀ (b o cap : Nat) (w : World), Holds (Value.int .i64) w b o zs.toArray → b < w.heap.size → zs.length ≤ cap → Calls P g #[.slice (some ⟨b, o, none⟩) zs.length cap] w fun e w' => e = .returned (if back then .slice (some ⟨b, o, none⟩) k cap else .tuple #[]) ∧ ∃ q os, w' = Go.Sort.grow (Go.Sort.putRow (Value.int .i64) (Sort.ahead w q) b o ys.toArray) os)
    (h0 : zs = [] → ∀ A (w : World), Calls P g #[.slice A 0 0] w fun e w' => e = .returned (if back then .slice A 0 0 else .tuple #[]) ∧ ∃ q, w' = Sort.ahead w q)
    (hH : H id = .cells ver T 1 cs) (hcs : cs = pre ++ zs.map (AV.int .i64) ++ post) (hoff : off = pre.length) (hK : K (if back then .ref id ver off k else .tup []) (upd H id (.cells ver T 1 (pre ++ ys.map (AV.int .i64) ++ post)))) : ACall P g [.ref id ver off n] H K := by
  subst hoff hn hcs
  refine ⟨he, fun B m N w vs hS hvs hrel => ?_⟩
  obtain ⟨v, rfl⟩ : ∃ v, vs = #[v] := by
    obtain ⟨l⟩ := vs
    match l with
    | [v] => exact ⟨v, rfl⟩
    | [] => simp at hvs
    | _ :: _ :: _ => simp at hvs
  have hv := hrel 0 _ v rfl rfl
  rcases rel_ref hv hH with ⟨hl0, A, rfl⟩ | ⟨b, sh, cap, c, T', fz, hm, rfl, hcap, hb, hfit⟩
  · have hz : zs = [] := List.eq_nil_of_length_eq_zero hl0
    subst hz
    have hy : ys = [] := List.eq_nil_of_length_eq_zero hl
    subst hy
    have hk0 : k = 0 := by simpa using hk
    subst hk0
    refine (h0 rfl A w).mono fun e w' => ?_
    rintro ⟨rfl, q, rfl⟩
    have hm2 := hS.more (w' := Sort.ahead w q) (Nat.le_refl _) (fun _ _ => rfl) rfl rfl rfl
    have e1 : upd H id (.cells ver T 1 (pre ++ ([] : List Int).map (AV.int .i64) ++ post)) = H := by rw [← hH, upd_self]
    rw [e1] at hK
    refine ⟨_, m, H, N, _, rfl, hK, hm2.1, hm2.2, ?_⟩
    cases back
    · exact .tup [] _ (by simp) (by simp)
    · simp only [if_true]
      cases hv with
      | fz h => cases h
      | ref _ _ _ _ _ o1 hv1 h1 => exact .ref _ _ _ _ _ o1 hv1 fun T sz cs hc => .inl ⟨rfl, A, rfl⟩
  · obtain ⟨n1, n2, c0, hb0, hc2, hc3⟩ := hS.own id ver T 1 _ b sh hH hm
    have hblt : b < w.heap.size := (Array.getElem?_eq_some_iff.1 hb0).1
    refine (hc b (sh + pre.length) cap w (hS.holds hH hm) hblt hcap).mono fun e w' => ?_
    rintro ⟨rfl, q, os, hw⟩
    obtain ⟨hS2, hC2⟩ := hS.putRow hH hm hl hw
    refine ⟨_, m, _, N, _, rfl, hK, hS2, hC2, ?_⟩
    cases back
    · exact .tup [] _ (by simp) (by simp)
    · simp only [if_true]
      obtain ⟨_, _, c2, hb2, hd2, _⟩ := hS2.own id ver T 1 _ b sh (upd_same ..) hm
      refine .ref _ _ _ _ _ rfl (by rw [upd_same]; exact Nat.le_refl _) fun T3 sz3 cs3 hc3 => ?_
      rw [upd_same] at hc3
      injection hc3 with _ _ e3 _
      subst e3
      rw [hb0] at hb
      injection hb with hb; injection hb with hb1 hb3 hb4
      obtain ⟨_, _, hlive⟩ := hC2.live id ver T 1 _ (upd_same ..) |>.resolve_left (by rw [hH]; simp [Blk.ver])
      obtain ⟨c', T1', z', q1, q2⟩ := hlive b sh hm c0 T (0, 0) hb0
      exact .inr ⟨b, sh, cap, c', T1', z', hm, rfl, by omega, q1, by rw [q2, hb1]; exact hfit⟩
/-- A call with frozen values, nil perhaps for an empty slice; frozen values come back. -/
theorem ACall.pureV {args args' : List AV} {K R : AV → Heap → Prop} (hv : Views H (fun _ => false) id (fun _ => false) args args') (h : ACall P g args' H0 R)
    (hK : ∀ r' H', R r' H' → ∃ r, Res (fun _ => false) anyAV H' r' r ∧ r.closed = true ∧ K r H) : ACall P g args H K := by
  refine ACall.lift h [] id (fun _ => false) (fun _ => false) anyAV (by simp) (by simp) (by simp) (by simp) (fun i v T sz cs h => by cases h) (by simp) (by simp) (by simp) (.inl (by simp)) hv ?_
  intro r' H' hR
  obtain ⟨r, h1, h2, h3⟩ := hK r' H' hR
  refine ⟨r, h1, by simp, ?_⟩
  rw [ren_closed id r h2]
  exact h3
/-- The same for a call of which the contract is told with frozen values. -/
theorem ACall.asV {args args' : List AV} {K : AV → Heap → Prop} {r : AV} (hv : Views H (fun _ => false) id (fun _ => false) args args') (h : ACall P g args' H0 fun x _ => x = r) (hr : r.closed = true) (hK : K r H) : ACall P g args H K :=
  ACall.pureV hv h fun r' H' e => by subst e; exact ⟨_, .cl hr, hr, hK⟩
/-- Cells at a block's end are forgotten. -/
theorem St.trim (h : St B m H N w) {id ver T sz : Nat} {cs : List AV} (hH : H id = .cells ver T sz cs) (k : Nat) : St B m (upd H id (.cells ver T sz (cs.take k))) N w ∧ Ch m H N w m (upd H id (.cells ver T sz (cs.take k))) N w := by
  cases hm : m id with
  | none =>
    have hc := h.virt id ver T sz cs hH hm
    have e : upd H id (.cells ver T sz (cs.take k)) = H := by rw [hc, List.take_nil, ← hc, ← hH, upd_self]
    rw [e]
    exact ⟨h, Ch.refl ..⟩
  | some p =>
    obtain ⟨b, sh⟩ := p
    obtain ⟨_, _, c0, hb, hl, hr⟩ := h.own id ver T sz cs b sh hH hm
    have hrow := h.row hH hm hb ver sh (.inl ⟨rfl, rfl⟩) (cs.take k) c0 rfl (by rw [List.length_take]; omega) fun j x u h1 h2 => by
      have hj := (List.getElem?_eq_some_iff.1 h1).1
      rw [List.length_take] at hj
      rw [List.getElem?_take_of_lt (by omega)] at h1
      exact hr j x u h1 h2
    rw [setRow_self w b c0 T (0, 0) hb] at hrow
    have e : upd m id (some (b, sh)) = m := by rw [← hm, upd_self]
    rw [e] at hrow
    exact hrow
theorem ACall.trim {args : List AV} {K R : AV → Heap → Prop} (h : ACall P g args H R) (hK : ∀ r H', R r H' → ∃ id ver T sz cs k, H' id = .cells ver T sz cs ∧ K r (upd H' id (.cells ver T sz (cs.take k)))) : ACall P g args H K := by
  obtain ⟨he, h⟩ := h
  refine ⟨he, fun B m N w vs hS hvs hrel => (h B m N w vs hS hvs hrel).mono fun e w' => ?_⟩
  rintro ⟨u, m', H', N', x, rfl, hR, hS', hC, hx⟩
  obtain ⟨id, ver, T, sz, cs, k, h1, h2⟩ := hK x H' hR
  obtain ⟨hS2, hC2⟩ := hS'.trim h1 k
  exact ⟨u, m', _, N', x, rfl, h2, hS2, hC.trans hC2, hx.ch hC2⟩
end Go.Abs
