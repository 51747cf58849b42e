/- Texts of ours, joined: YtmpbbjdkpdakeaaAbsX YtmpbbjdkpdakeaaS1 YtmpbbjdkpdakeaaS2. -/
import Derived.Test.YtmpbbjdkpdakeaaAbs3
import Derived.Test.YtmpbbjdkpdakeaaFn
import Derived.IntWalk
/- The abstract machine, part X: blocks under consecutive names, handed over and handed back. -/
set_option linter.unusedVariables false
set_option linter.unusedSimpArgs false
namespace Go.Abs
/-- The names d, d+1, .., d+n-1. -/
def inI (d n : Nat) : Nat → Bool := fun i => Nat.ble d i && Nat.blt i (d + n)
theorem inI_iff {d n i : Nat} : inI d n i = true ↔ d ≤ i ∧ i < d + n := by simp [inI, Nat.blt_eq]
theorem inI_eq (d n : Nat) : (fun x => (List.range' d n).contains x) = inI d n := by
  funext i
  rw [Bool.eq_iff_iff, inI_iff]
  simp [List.mem_range'_1]
/-- The part of a heap under these names; the heap with that part put back. -/
def sub (d n : Nat) (H : Heap) : Heap := fun i => if inI d n i then H i else .gone 0
def joi (d n : Nat) (H' H : Heap) : Heap := fun i => if inI d n i then H' i else H i
theorem ren_self : ∀ (a : AV), ren id a = a := by
  have key : ∀ (n : Nat) (a : AV), SizeOf.sizeOf a < n → ren id a = a := by
    intro n
    induction n with
    | zero => intro a h; omega
    | succ n ih =>
      intro a hn
      have hl : ∀ (l : List AV), (∀ x ∈ l, SizeOf.sizeOf x < n) → renL id l = l := by
        intro l
        induction l with
        | nil => intro _; rfl
        | cons x l ihl =>
          intro hx
          simp only [renL]
          rw [ih x (hx x (by simp)), ihl (fun y hy => hx y (by simp [hy]))]
      have hs : ∀ (l : List AV) (x : AV), x ∈ l → SizeOf.sizeOf l < SizeOf.sizeOf a → SizeOf.sizeOf x < n := fun l x hx hla => by
        have := List.sizeOf_lt_of_mem hx; omega
      cases a <;> simp only [ren] <;> first
        | rfl
        | (congr 1; refine hl _ (fun x hx => hs _ x hx (by simp <;> omega)); done)
  exact fun a => key (SizeOf.sizeOf a + 1) a (by omega)
theorem renL_self (l : List AV) : renL id l = l := by
  induction l with
  | nil => rfl
  | cons a l ih => simp only [renL]; rw [ren_self, ih]
theorem blk_self (b : Blk) : b.ren id = b := by cases b <;> simp only [Blk.ren]; rw [renL_self]
theorem joinH_iv {d n : Nat} {H' H : Heap} : joinH id (List.range' d n) (fun _ => false) H' H = joi d n H' H := by
  funext i
  unfold joinH joi lookL
  by_cases h : inI d n i = true
  · have hm : i ∈ List.range' d n := by have := inI_iff.1 h; simp [List.mem_range'_1]; omega
    cases hf : (List.range' d n).find? (fun k => id k == i) with
    | none => have := List.find?_eq_none.1 hf i hm; simp at this
    | some k =>
      have h1 := List.find?_some hf
      simp only [id, beq_iff_eq] at h1
      subst h1
      simp only [h, if_true, blk_self]
  · cases hf : (List.range' d n).find? (fun k => id k == i) with
    | none => simp [h]
    | some k =>
      have h1 := List.find?_some hf
      have h2 := List.mem_of_find?_eq_some hf
      simp only [id, beq_iff_eq] at h1
      subst h1
      exact absurd (inI_iff.2 (by simp [List.mem_range'_1] at h2; omega)) h
variable {P : Program} {g : FuncId}
/-- Blocks under consecutive names go into a call and come back. -/
theorem ACall.iv {args : List AV} {H : Heap} {R K : AV → Heap → Prop} {d n : Nat} (hd : 1000000 ≤ d) (hc : ∀ i v T sz cs, inI d n i = true → H i = .cells v T sz cs → withinL (inI d n) anyAV cs = true)
    (ha : withinL (inI d n) anyAV args = true) (h : ACall P g args (sub d n H) R)
    (hK : ∀ r H', R r H' → ∃ r', Res (inI d n) anyAV H' r r' ∧ (∀ i v T sz cs, inI d n i = true → H' i = .cells v T sz cs → withinL (inI d n) anyAV cs = true) ∧ K r' (joi d n H' H)) : ACall P g args H K := by
  have hm : ∀ i, i ∈ List.range' d n ↔ inI d n i = true := fun i => by rw [inI_iff]; simp [List.mem_range'_1]
  have hcon : ∀ i, (List.range' d n).contains i = inI d n i := fun i => congrFun (inI_eq d n) i
  refine ACall.lift h (List.range' d n) id (fun _ => false) (fun _ => false) anyAV ?_ (fun _ _ _ _ h => h) ?_ ?_ ?_ (by simp) (by simp) (by simp) (.inl (by simp)) ?_ ?_
  · intro i hi; have := inI_iff.1 ((hm i).1 hi); omega
  · intro i hi; simp only [id, sub, (hm i).1 hi, if_true, blk_self]
  · intro i hi v T sz cs h1
    simp only [sub, (hm i).1 hi, if_true] at h1
    rw [inI_eq]; exact hc i v T sz cs ((hm i).1 hi) h1
  · intro i v T sz cs h1
    simp only [sub] at h1
    split at h1
    · rename_i h2; exact (hm i).2 h2
    · cases h1
  · rw [inI_eq]
    clear h hK
    induction args with
    | nil => exact .nil
    | cons a l ih =>
      simp only [withinL, Bool.and_eq_true] at ha
      refine .cons _ _ _ _ ?_ (ih ha.2)
      have := View.ren (H := H) (L := inI d n) (ρ := id) (β := fun _ => false) a ha.1
      rw [ren_self] at this
      exact this
  · intro r' H' hR
    obtain ⟨r, h1, h2, h3⟩ := hK r' H' hR
    refine ⟨r, by rw [inI_eq]; exact h1, fun i hi v T sz cs h4 => by rw [inI_eq]; exact h2 i v T sz cs ((hm i).1 hi) h4, ?_⟩
    rw [ren_self, joinH_iv]
    exact h3
/-- The block that the callee made becomes ours under the name d. -/
theorem ACall.named {args : List AV} {H : Heap} {K : AV → Heap → Prop} (d : Nat) (hd : 1000000 ≤ d) {s T sz len : Nat} (hs : s < 1000000) {Q : List AV → Heap → Prop}
    (h : ACall P g args H fun r H' => ∃ v cs, r = .ref s v 0 len ∧ H' s = .cells v T sz cs ∧ Q cs H')
    (hK : ∀ v ver cs H', Q cs H' → K (.ref d ver 0 len) (upd (upd H' s (.gone v)) d (.cells ver T sz cs))) : ACall P g args H K := by
  refine ACall.own d hd h ?_
  rintro r H' ⟨v, cs, rfl, h1, h2⟩
  exact .inl ⟨s, v, T, sz, cs, _, hs, h1, .ref .., hK _ _ _ _ h2⟩
end Go.Abs

set_option linter.unusedVariables false
set_option linter.unusedSimpArgs false
namespace Go.Proofs.Ytmpbbjdkpdakeaa
open Go.Abs Go.IntWalk
set_option maxRecDepth 100000
abbrev I64 (n : Int) : AV := .int .i64 n
abbrev U64 (n : Nat) : AV := .int .u64 (n : Int)
def eI (l : List Int) : AV := .sl 1 (l.map I64)
def eU (l : List Nat) : AV := .sl 1 (l.map U64)
theorem bF {p : Prop} [Decidable p] (h : ¬ p) : AV.bool false = AV.bool (decide p) := by rw [decide_eq_false h]
theorem bT {p : Prop} [Decidable p] (h : p) : AV.bool true = AV.bool (decide p) := by rw [decide_eq_true h]
theorem bE {p q : Prop} [Decidable p] [Decidable q] (h : p ↔ q) : AV.bool (decide p) = AV.bool (decide q) := by rw [decide_eq_decide.2 h]
theorem take_step {α : Type} {a b : List α} {k : Nat} {x y : α} (h : a.take k = b.take k) (hx : a[k]? = some x) (hy : b[k]? = some y) (e : x = y) : a.take (k + 1) = b.take (k + 1) := by
  rw [List.take_add_one, List.take_add_one, h, hx, hy, e]
theorem drop_step {α : Type} {l : List α} {i : Nat} {x : α} (h : l[i]? = some x) : l.drop i = x :: l.drop (i + 1) := by
  obtain ⟨h1, h2⟩ := List.getElem?_eq_some_iff.1 h
  rw [List.drop_eq_getElem_cons h1, h2]
theorem get_some {α : Type} {l : List α} {i : Nat} (h : i < l.length) : ∃ x, l[i]? = some x := ⟨_, List.getElem?_eq_getElem h⟩
/-- A write at a place. -/
theorem put_len {C xs : List AV} {o : Nat} (h : o + xs.length ≤ C.length) : (C.take o ++ xs ++ C.drop (o + xs.length)).length = C.length := by
  simp only [List.length_append, List.length_take, List.length_drop]; omega
theorem put_take {C xs : List AV} {o : Nat} (h : o + xs.length ≤ C.length) : (C.take o ++ xs ++ C.drop (o + xs.length)).take (o + xs.length) = C.take o ++ xs := by
  rw [List.take_append_of_le_length (by simp only [List.length_append, List.length_take]; omega), List.take_of_length_le (by simp only [List.length_append, List.length_take]; omega)]
theorem set_take {C : List AV} {o : Nat} {x : AV} (h : o < C.length) : (C.set o x).take (o + 1) = C.take o ++ [x] := by
  rw [List.take_add_one, List.getElem?_set_self h, List.take_set_of_le (Nat.le_refl _)]
  rfl
theorem take_one {α : Type} {l : List α} {i : Nat} {x : α} (h : l[i]? = some x) : l.take (i + 1) = l.take i ++ [x] := by rw [List.take_add_one, h]; rfl
theorem reps_len (n : Nat) (zs : List AV) : (reps n zs).length = n * zs.length := by
  unfold reps
  split <;> simp
theorem res2 {α : Type} {c : α → List AV} (h1 : ∀ x, (c x).length = 2) (h2 : ∀ x, ∀ y ∈ c x, y.froz = true) {L : Nat → Bool} {H : Heap} {id ver T n : Nat} {t : List α} (hn : n = t.length) (hL : L id = false) (h : H id = .cells ver T 2 (t.flatMap c)) : Res L anyAV H (.ref id ver 0 n) (.sl 2 (t.map fun x => .agg (c x))) := by
  subst hn
  have hf : (t.map fun x => AV.agg (c x)).flatMap flat = t.flatMap c := by
    induction t with
    | nil => rfl
    | cons a t ih => rw [List.map_cons, List.flatMap_cons, List.flatMap_cons]; rw [← show (t.map fun x => AV.agg (c x)).flatMap flat = t.flatMap c from ?_]; · rfl
                     clear h ih
                     induction t with
                     | nil => rfl
                     | cons b t ih => rw [List.map_cons, List.flatMap_cons, List.flatMap_cons, ih]; rfl
  have := Res.slice (L := L) (H := H) (id := id) (ver := ver) (T := T) (sz := 2) (cs := t.flatMap c) (es := t.map fun x => .agg (c x)) hL h hf.symm
    (fun e he => by obtain ⟨x, _, rfl⟩ := List.mem_map.1 he; exact h1 x) (fun e he y hy => by obtain ⟨x, _, rfl⟩ := List.mem_map.1 he; exact h2 x y hy)
  simpa using this
abbrev PSaid := Int × Int
def cS (x : PSaid) : List AV := [I64 x.1, I64 x.2]
def eS (x : PSaid) : AV := .agg (cS x)
def eSs (t : List PSaid) : AV := .sl 2 (t.map eS)
instance : DecidableEq PSaid := inferInstanceAs (DecidableEq (Int × Int))
def smSaid (x : PSaid) : Prop := True
def smSaidS (t : List PSaid) : Prop := t.length ≤ 1048576 ∧ ∀ x ∈ t, smSaid x
attribute [local go_sem] eI eU eS cS eSs
theorem c_toSaid {x : PSaid} {H : Heap} {K : AV → Heap → Prop} (hx : smSaid x) (hK : K (eS x) H) : ACall Try.prog 85 [eS x] H K := by
  refine ACall.pure (R := fun r _ => r = eS x) rfl ?_ fun r H' h => by subst h; exact ⟨_, .cl rfl, rfl, hK⟩
  refine call85 (by simp) ?_
  simp only [Try.results85, Try.ntmps85, Try.f85, Option.getD_some, pl85]
  simp only [go_sem]
theorem c_toSaidS {t : List PSaid} {H : Heap} {K : AV → Heap → Prop} (ht : smSaidS t) (hK : K (eSs t) H) : ACall Try.prog 36 [eSs t] H K := by
  have hl := ht.1
  refine ACall.pure (R := fun r H' => ∃ v, r = .ref 7 v 0 t.length ∧ H' 7 = .cells v 101 2 (t.flatMap cS)) rfl ?_ ?_
  · refine call36 (by simp) ?_
    simp only [Try.results36, Try.ntmps36, Try.f36, Option.getD_some, pl36]
    simp only [go_sem]
    refine ⟨by omega, by omega, by omega, by omega, ?_⟩
    refine ALoop.intro (pl := pl36) (fun k env H => ∃ (i v : Nat) (C : List AV), env 0 = eSs t ∧ env 3 = .ref 7 v 0 t.length ∧ env 4 = I64 i ∧ H 7 = .cells v 101 2 C ∧ i + k = t.length ∧ C.length = t.length * 2 ∧ C.take (i * 2) = (t.take i).flatMap cS) t.length (by kernel_rfl) ?_ ?_
    · simp only [go_sem]
      exact ⟨0, _, _, rfl, rfl, rfl, by omega, by rw [reps_len]; rfl, rfl⟩
    · rintro k env H ⟨i, v, C, e0, e3, e4, b7, hk, hC, hT⟩
      by_cases hz : (i : Int) < t.length
      · obtain ⟨x, hx⟩ := get_some (l := t) (i := i) (by omega)
        have h0 : (0 : Int) ≤ i := by omega
        have hw : IntKind.wrap .i64 ((i : Int) + 1) = i + 1 := i64_in _ (by omega)
        simp only [go_sem, pl36, e0, e3, e4, b7, hz, hx, h0]
        refine c_toSaid (x := x) (ht.2 x (List.mem_of_getElem? hx)) ?_
        simp only [go_sem, pl36, e0, e3, e4, b7, hz, hx, h0, hw]
        refine ⟨by omega, k - 1, by omega, i + 1, _, _, rfl, rfl, rfl, by omega, ?_, ?_⟩
        · rw [← hC]; exact put_len (xs := cS x) (by rw [hC]; show i * 2 + 2 ≤ _; omega)
        · rw [Nat.succ_mul]
          refine (put_take (xs := cS x) (by rw [hC]; show i * 2 + 2 ≤ _; omega)).trans ?_
          rw [hT, take_one hx, List.flatMap_append]
          simp
      · simp only [go_sem, e0, e3, e4, b7, hz]
        rw [List.take_of_length_le (by omega), List.take_of_length_le (by omega)] at hT
        exact ⟨v, rfl, by rw [hT]⟩
  · rintro r H' ⟨v, rfl, h⟩
    exact ⟨_, res2 (fun _ => rfl) (fun x y hy => by simp [cS] at hy; rcases hy with rfl | rfl <;> rfl) rfl rfl h, rfl, hK⟩
theorem c_eqSaid {x y : PSaid} {H : Heap} {K : AV → Heap → Prop} (hx : smSaid x) (hy : smSaid y) (hK : K (.bool (decide (x = y))) H) : ACall Try.prog 89 [eS x, eS y] H K := by
  refine ACall.pure (R := fun r _ => r = .bool (decide (x = y))) rfl ?_ fun r H' h => by subst h; exact ⟨_, .cl rfl, rfl, hK⟩
  refine call89 (by simp) ?_
  simp only [Try.results89, Try.ntmps89, Try.f89, Option.getD_some, pl89]
  simp only [go_sem]
  obtain ⟨o1, n1⟩ := x
  obtain ⟨o2, n2⟩ := y
  by_cases h1 : o1 = o2
  · by_cases h2 : n1 = n2
    · subst h1 h2
      simp only [go_sem, decide_true]
    · simp only [go_sem, h1, h2]
      exact bF fun e => h2 (by injection e)
  · simp only [go_sem, h1]
    exact bF fun e => h1 (by injection e)
theorem c_eqSaidS {a b : List PSaid} {H : Heap} {K : AV → Heap → Prop} (ha : smSaidS a) (hb : smSaidS b) (hK : K (.bool (decide (a = b))) H) : ACall Try.prog 39 [eSs a, eSs b] H K := by
  have hl := ha.1
  have hl2 := hb.1
  refine ACall.pure (R := fun r _ => r = .bool (decide (a = b))) rfl ?_ fun r H' h => by subst h; exact ⟨_, .cl rfl, rfl, hK⟩
  refine call39 (by simp) ?_
  simp only [Try.results39, Try.ntmps39, Try.f39, Option.getD_some, pl39]
  by_cases hlen : (a.length : Int) = b.length
  · simp only [go_sem, hlen]
    refine ALoop.intro (pl := pl39) (fun k env H => ∃ i : Nat, env 0 = eSs a ∧ env 1 = eSs b ∧ env 5 = I64 i ∧ i + k = a.length ∧ a.take i = b.take i) a.length (by kernel_rfl) ?_ ?_
    · simp only [go_sem]
      exact ⟨0, rfl, by omega, rfl⟩
    · rintro k env H ⟨i, e0, e1, e5, hk, ht⟩
      by_cases hz : (i : Int) < a.length
      · obtain ⟨x, hx⟩ := get_some (l := a) (i := i) (by omega)
        obtain ⟨y, hy⟩ := get_some (l := b) (i := i) (by omega)
        have hw : IntKind.wrap .i64 ((i : Int) + 1) = i + 1 := i64_in _ (by omega)
        have h0 : (0 : Int) ≤ i := by omega
        simp only [go_sem, pl39, e0, e1, e5, hz, hx, hy, h0]
        refine c_eqSaid (x := x) (y := y) (ha.2 x (List.mem_of_getElem? hx)) (hb.2 y (List.mem_of_getElem? hy)) ?_
        by_cases hxy : x = y
        · simp only [go_sem, pl39, e0, e1, e5, hz, hx, hy, h0, hxy, hw]
          exact ⟨k - 1, by omega, i + 1, rfl, by omega, take_step ht hx hy hxy⟩
        · simp only [go_sem, pl39, e0, e1, e5, hz, hx, hy, h0, hxy]
          exact bF fun e => by rw [e, hy] at hx; injection hx with hx; exact hxy hx.symm
      · simp only [go_sem, e0, e1, e5, hz]
        exact bT (by rw [← List.take_of_length_le (l := a) (i := i) (by omega), ht, List.take_of_length_le (by omega)])
  · simp only [go_sem, hlen]
    exact bF fun e => hlen (by rw [e])
end Go.Proofs.Ytmpbbjdkpdakeaa

set_option linter.unusedVariables false
set_option linter.unusedSimpArgs false
namespace Go.Proofs.Ytmpbbjdkpdakeaa
open Go.Abs Go.IntWalk
set_option maxRecDepth 100000
attribute [local go_sem] eI eU eS cS eSs take_map
theorem upd_lo {α : Type} {f : Nat → α} {d i : Nat} {x : α} (hi : i < 1000000) (hd : 1000000 ≤ d) : upd f d x i = f i := upd_ne _ _ (by omega)
theorem upd_hi {α : Type} {f : Nat → α} {d i : Nat} {x : α} (hi : i < 1000000) (hd : 1000000 ≤ d) : upd f i x d = f d := upd_ne _ _ (by omega)
theorem eq_lo {d i : Nat} (hi : i < 1000000) (hd : 1000000 ≤ d) : (i = d) = False := eq_false (by omega)
theorem eq_hi {d i : Nat} (hi : i < 1000000) (hd : 1000000 ≤ d) : (d = i) = False := eq_false (by omega)
theorem joi_in {d n i : Nat} {H' H : Heap} (h1 : d ≤ i) (h2 : i < d + n) : joi d n H' H i = H' i := by simp only [joi, inI_iff.2 ⟨h1, h2⟩, if_true]
theorem joi_out {d n i : Nat} {H' H : Heap} (h : i < d ∨ d + n ≤ i) : joi d n H' H i = H i := by
  unfold joi
  rw [if_neg fun h2 => by have := inI_iff.1 h2; omega]
theorem sub_in {d n i : Nat} {H : Heap} (h1 : d ≤ i) (h2 : i < d + n) : sub d n H i = H i := by simp only [sub, inI_iff.2 ⟨h1, h2⟩, if_true]
theorem joi_one {d : Nat} {H' H : Heap} {b : Blk} (h : H' d = b) : joi d 1 H' H = upd H d b := by
  funext i
  by_cases e : i = d
  · subst e; rw [joi_in (by omega) (by omega), upd_same, h]
  · rw [joi_out (by omega), upd_ne _ _ e]
def Gone (d n : Nat) (H : Heap) : Prop := ∀ i, d ≤ i → i < d + n → ∃ v, H i = .gone v
theorem Gone.sub {d n : Nat} {H : Heap} (h : Gone d n H) : Gone d n (sub d n H) := fun i h1 h2 => by rw [sub_in h1 h2]; exact h i h1 h2
theorem Gone.cells {d n : Nat} {H : Heap} {L : Nat → Bool} (h : Gone d n H) : ∀ i v T sz cs, inI d n i = true → H i = .cells v T sz cs → withinL L anyAV cs = true := fun i v T sz cs hi hc => by
  have := inI_iff.1 hi
  obtain ⟨w, hw⟩ := h i this.1 this.2
  rw [hw] at hc; cases hc
theorem k_toSaidS {t : List PSaid} {H : Heap} (ht : smSaidS t) : ACall Try.prog 36 [eSs t] H fun r H' => ∃ v cs, r = .ref 7 v 0 t.length ∧ H' 7 = .cells v 101 2 cs ∧ cs = t.flatMap cS := by
  have hl := ht.1
  refine call36 (by simp) ?_
  simp only [Try.results36, Try.ntmps36, Try.f36, Option.getD_some, pl36]
  simp only [go_sem]
  refine ⟨by omega, by omega, by omega, by omega, ?_⟩
  refine ALoop.intro (pl := pl36) (fun k env H => ∃ (i v : Nat) (C : List AV), env 0 = eSs t ∧ env 3 = .ref 7 v 0 t.length ∧ env 4 = I64 i ∧ H 7 = .cells v 101 2 C ∧ i + k = t.length ∧ C.length = t.length * 2 ∧ C.take (i * 2) = (t.take i).flatMap cS) t.length (by kernel_rfl) ?_ ?_
  · simp only [go_sem]
    exact ⟨0, _, _, rfl, rfl, rfl, by omega, by rw [reps_len]; rfl, rfl⟩
  · rintro k env H ⟨i, v, C, e0, e3, e4, b7, hk, hC, hT⟩
    by_cases hz : (i : Int) < t.length
    · obtain ⟨x, hx⟩ := get_some (l := t) (i := i) (by omega)
      have h0 : (0 : Int) ≤ i := by omega
      have hw : IntKind.wrap .i64 ((i : Int) + 1) = i + 1 := i64_in _ (by omega)
      simp only [go_sem, pl36, e0, e3, e4, b7, hz, hx, h0]
      refine c_toSaid (x := x) (ht.2 x (List.mem_of_getElem? hx)) ?_
      simp only [go_sem, pl36, e0, e3, e4, b7, hz, hx, h0, hw]
      refine ⟨by omega, k - 1, by omega, i + 1, _, _, rfl, rfl, rfl, by omega, ?_, ?_⟩
      · rw [← hC]; exact put_len (xs := cS x) (by rw [hC]; show i * 2 + 2 ≤ _; omega)
      · rw [Nat.succ_mul]
        refine (put_take (xs := cS x) (by rw [hC]; show i * 2 + 2 ≤ _; omega)).trans ?_
        rw [hT, take_one hx, List.flatMap_append]
        simp
    · simp only [go_sem, e0, e3, e4, b7, hz]
      rw [List.take_of_length_le (by omega), List.take_of_length_le (by omega)] at hT
      exact ⟨v, _, rfl, rfl, by rw [hT]⟩
theorem cl_nodes (t : List PSaid) : closedL (t.flatMap cS) = true := cl_flat (fun _ => rfl) t
theorem o_toSaidS {t : List PSaid} {H : Heap} {K : AV → Heap → Prop} (d : Nat) (hd : 1000000 ≤ d) (ht : smSaidS t) (hg : ∃ v0, H d = .gone v0) (hK : ∀ ver, K (.ref d ver 0 t.length) (upd H d (.cells ver 101 2 (t.flatMap cS)))) : ACall Try.prog 36 [eSs t] H K := by
  obtain ⟨v0, hg⟩ := hg
  refine ACall.own1 d hg rfl (cl_nodes t) ?_ hK
  refine ACall.named 1000000 (by omega) (s := 7) (by omega) (Q := fun cs H' => cs = t.flatMap cS) (k_toSaidS ht) ?_
  rintro v ver cs H' rfl
  exact ⟨ver, rfl, upd_same ..⟩
theorem closedL_set : ∀ {C : List AV} {i : Nat} {x : AV}, closedL C = true → x.closed = true → closedL (C.set i x) = true
  | [], i, x, _, _ => by cases i <;> rfl
  | a :: C, 0, x, h, hx => by
    simp only [closedL, List.all_cons, Bool.and_eq_true] at h
    simp only [List.set_cons_zero, closedL, List.all_cons, Bool.and_eq_true]
    exact ⟨hx, h.2⟩
  | a :: C, i + 1, x, h, hx => by
    simp only [closedL, List.all_cons, Bool.and_eq_true] at h
    have := closedL_set (C := C) (i := i) (x := x) h.2 hx
    simp only [closedL] at this
    simp only [List.set_cons_succ, closedL, List.all_cons, Bool.and_eq_true]
    exact ⟨h.1, this⟩
theorem o_markSaidS {d v n : Nat} {C : List AV} {k : Int} {H : Heap} {K : AV → Heap → Prop} (hd : 1000000 ≤ d) (hH : H d = .cells v 101 2 C) (hC : C.length = n * 2) (hcl : closedL C = true) (hn : n ≤ 1048576) (hk0 : 0 ≤ k) (hk : k ≤ 9223372036800000000)
    (hK : ∀ k' C', C'.length = n * 2 → closedL C' = true → k ≤ k' → k' ≤ k + 2097152 → K (I64 k') (upd H d (.cells v 101 2 C'))) : ACall Try.prog 49 [.ref d v 0 n, I64 k] H K := by
  have hin : inI d 1 d = true := inI_iff.2 (by omega)
  refine ACall.iv (d := d) (n := 1) hd ?_ ?_ (R := fun r H' => ∃ k' C', r = I64 k' ∧ H' d = .cells v 101 2 C' ∧ C'.length = n * 2 ∧ closedL C' = true ∧ k ≤ k' ∧ k' ≤ k + 2097152) ?_ ?_
  · intro i v T sz cs hi hc
    have := inI_iff.1 hi
    rw [show i = d by omega, hH] at hc
    cases hc; exact withinL_cl hcl
  · simp only [withinL, within, hin, Bool.and_self]
  · generalize hHs : sub d 1 H = Hs
    have hs : Hs d = .cells v 101 2 C := by rw [← hHs, sub_in (by omega) (by omega), hH]
    clear hHs
    refine call49 (by simp) ?_
    simp only [Try.results49, Try.ntmps49, Try.f49, Option.getD_some, pl49]
    simp only [go_sem]
    refine ALoop.intro (pl := pl49) (fun q env H => ∃ (i : Nat) (C : List AV), env 0 = .ref d v 0 n ∧ env 1 = I64 (k + 2 * i) ∧ env 5 = I64 i ∧ H d = .cells v 101 2 C ∧ i + q = n ∧ C.length = n * 2 ∧ closedL C = true) n (by kernel_rfl) ?_ ?_
    · simp only [go_sem]
      exact ⟨0, C, by simp, rfl, hs, by omega, hC, hcl⟩
    · rintro q env H ⟨i, C, e0, e1, e5, bd, hq, hC, hcl⟩
      by_cases hz : (i : Int) < n
      · have h0 : (0 : Int) ≤ i := by omega
        have hw : IntKind.wrap .i64 ((i : Int) + 1) = i + 1 := i64_in _ (by omega)
        have hw1 : IntKind.wrap .i64 (k + 2 * (i : Int) + 1) = k + 2 * i + 1 := i64_in _ (by omega)
        have hw2 : IntKind.wrap .i64 (k + 2 * (i : Int) + 1 + 1) = k + 2 * ((i + 1 : Nat) : Int) := by rw [i64_in _ (by omega)]; omega
        simp only [go_sem, pl49, e0, e1, e5, bd, hz, h0, hw, hw1, hw2]
        have hne : ∀ {C : List AV}, C.length = n * 2 → ¬ C = [] := fun {C} hC e => by rw [e] at hC; simp at hC; omega
        exact ⟨hne hC, by omega, hne (by rw [List.length_set]; exact hC), by rw [List.length_set]; omega, q - 1, by omega, i + 1, _, rfl, rfl, rfl, by omega, by rw [List.length_set, List.length_set]; exact hC, closedL_set (closedL_set hcl rfl) rfl⟩
      · simp only [go_sem, e0, e1, e5, bd, hz]
        exact ⟨_, C, rfl, rfl, hC, hcl, by omega, by omega⟩
  · rintro r H' ⟨k', C', rfl, h, h1, h2, h3, h4⟩
    refine ⟨_, .keep _ rfl, fun i v T sz cs hi hc => ?_, ?_⟩
    · have := inI_iff.1 hi
      rw [show i = d by omega, h] at hc
      cases hc; exact withinL_cl h2
    · rw [joi_one h]; exact hK _ _ h1 h2 h3 h4
theorem c_eqIntS {a b : List Int} {H : Heap} {K : AV → Heap → Prop} (ha : a.length ≤ 1000000000) (hb : b.length ≤ 1000000000) (hK : K (.bool (decide (a = b))) H) : ACall Try.prog 28 [eI a, eI b] H K := by
  refine ACall.pure (R := fun r _ => r = .bool (decide (a = b))) rfl ?_ fun r H' h => by subst h; exact ⟨_, .cl rfl, rfl, hK⟩
  refine call28 (by simp) ?_
  simp only [Try.results28, Try.ntmps28, Try.f28, Option.getD_some, pl28]
  by_cases hlen : (a.length : Int) = b.length
  · simp only [go_sem, hlen]
    refine ALoop.intro (pl := pl28) (fun k env H => ∃ i : Nat, env 0 = eI a ∧ env 1 = eI b ∧ env 5 = I64 i ∧ i + k = a.length ∧ a.take i = b.take i) a.length (by kernel_rfl) ?_ ?_
    · simp only [go_sem]
      exact ⟨0, rfl, by omega, rfl⟩
    · rintro k env H ⟨i, e0, e1, e5, hk, ht⟩
      by_cases hz : (i : Int) < a.length
      · obtain ⟨x, hx⟩ := get_some (l := a) (i := i) (by omega)
        obtain ⟨y, hy⟩ := get_some (l := b) (i := i) (by omega)
        have hw : IntKind.wrap .i64 ((i : Int) + 1) = i + 1 := i64_in _ (by omega)
        have h0 : (0 : Int) ≤ i := by omega
        by_cases hxy : x = y
        · simp only [go_sem, pl28, e0, e1, e5, hz, hx, hy, h0, hxy, hw]
          exact ⟨k - 1, by omega, i + 1, rfl, by omega, take_step ht hx hy hxy⟩
        · simp only [go_sem, pl28, e0, e1, e5, hz, hx, hy, h0, hxy]
          exact bF fun e => by rw [e, hy] at hx; injection hx with hx; exact hxy hx.symm
      · simp only [go_sem, e0, e1, e5, hz]
        exact bT (by rw [← List.take_of_length_le (l := a) (i := i) (by omega), ht, List.take_of_length_le (by omega)])
  · simp only [go_sem, hlen]
    exact bF fun e => hlen (by rw [e])
def cnt (k : Int) (n : Nat) : List Int := (List.range n).map fun i => k + (i : Nat)
theorem cnt_len {k : Int} {n : Nat} : (cnt k n).length = n := by simp [cnt]
theorem cnt_get {k : Int} {n i : Nat} (h : i < n) : (cnt k n)[i]? = some (k + (i : Nat)) := by simp [cnt, List.getElem?_range h]
theorem cnt_take {k : Int} {n i : Nat} (h : i < n) : (cnt k n).take (i + 1) = (cnt k n).take i ++ [k + (i : Nat)] := take_one (cnt_get h)
theorem o_markIntS {d v n : Nat} {C : List AV} {k : Int} {H : Heap} {K : AV → Heap → Prop} (hd : 1000000 ≤ d) (hH : H d = .cells v 3 1 C) (hC : C.length = n) (hcl : closedL C = true) (hn : n ≤ 1000000000) (hk0 : 0 ≤ k) (hk : k ≤ 1000000)
    (hK : K (I64 (k + n)) (upd H d (.cells v 3 1 ((cnt k n).map I64)))) : ACall Try.prog 31 [.ref d v 0 n, I64 k] H K := by
  have hin : inI d 1 d = true := inI_iff.2 (by omega)
  refine ACall.iv (d := d) (n := 1) hd ?_ ?_ (R := fun r H' => r = I64 (k + n) ∧ H' d = .cells v 3 1 ((cnt k n).map I64)) ?_ ?_
  · intro i v T sz cs hi hc
    have := inI_iff.1 hi
    rw [show i = d by omega, hH] at hc
    cases hc; exact withinL_cl hcl
  · simp only [withinL, within, hin, Bool.and_self]
  · generalize hHs : sub d 1 H = Hs
    have hs : Hs d = .cells v 3 1 C := by rw [← hHs, sub_in (by omega) (by omega), hH]
    clear hHs
    refine call31 (by simp) ?_
    simp only [Try.results31, Try.ntmps31, Try.f31, Option.getD_some, pl31]
    simp only [go_sem]
    refine ALoop.intro (pl := pl31) (fun q env H => ∃ (i : Nat) (C : List AV), env 0 = .ref d v 0 n ∧ env 1 = I64 (k + (i : Nat)) ∧ env 5 = I64 i ∧ H d = .cells v 3 1 C ∧ i + q = n ∧ C.length = n ∧ C.take i = ((cnt k n).take i).map I64) n (by kernel_rfl) ?_ ?_
    · simp only [go_sem]
      exact ⟨0, C, by simp, rfl, hs, by omega, hC, rfl⟩
    · rintro q env H ⟨i, C, e0, e1, e5, bd, hq, hC, hT⟩
      by_cases hz : (i : Int) < n
      · have h0 : (0 : Int) ≤ i := by omega
        have hw : IntKind.wrap .i64 ((i : Int) + 1) = i + 1 := i64_in _ (by omega)
        have hw1 : IntKind.wrap .i64 (k + (i : Int) + 1) = k + ((i + 1 : Nat) : Int) := by rw [i64_in _ (by omega)]; omega
        simp only [go_sem, pl31, e0, e1, e5, bd, hz, h0, hw, hw1]
        refine ⟨by omega, q - 1, by omega, i + 1, _, rfl, rfl, rfl, by omega, by rw [List.length_set]; exact hC, ?_⟩
        rw [set_take (by omega), hT, cnt_take (by omega), List.map_append]; rfl
      · simp only [go_sem, e0, e1, e5, bd, hz]
        rw [List.take_of_length_le (by omega), List.take_of_length_le (by rw [cnt_len]; omega)] at hT
        have : i = n := by omega
        subst this
        exact ⟨rfl, by rw [hT]⟩
  · rintro r H' ⟨rfl, h⟩
    refine ⟨_, .keep _ rfl, fun i v T sz cs hi hc => ?_, ?_⟩
    · have := inI_iff.1 hi
      rw [show i = d by omega, h] at hc
      cases hc; exact withinL_cl (cll_map fun _ => rfl)
    · rw [joi_one h]; exact hK
theorem c_heldIntS {n : Nat} {k : Int} {H : Heap} {K : AV → Heap → Prop} (hn : n ≤ 1000000000) (hk0 : 0 ≤ k) (hk : k ≤ 1000000) (hK : K (I64 (k + n)) H) : ACall Try.prog 32 [eI (cnt k n), I64 k] H K := by
  refine ACall.pure (R := fun r _ => r = I64 (k + n)) rfl ?_ fun r H' h => by subst h; exact ⟨_, .cl rfl, rfl, hK⟩
  refine call32 (by simp) ?_
  simp only [Try.results32, Try.ntmps32, Try.f32, Option.getD_some, pl32]
  have hl : (cnt k n).length = n := cnt_len
  simp only [go_sem]
  refine ALoop.intro (pl := pl32) (fun q env H => ∃ i : Nat, env 0 = eI (cnt k n) ∧ env 1 = I64 (k + (i : Nat)) ∧ env 5 = I64 i ∧ i + q = n) n (by kernel_rfl) ?_ ?_
  · simp only [go_sem]
    exact ⟨0, by simp, rfl, by omega⟩
  · rintro q env H ⟨i, e0, e1, e5, hq⟩
    by_cases hz : (i : Int) < n
    · have h0 : (0 : Int) ≤ i := by omega
      have hx := cnt_get (k := k) (show i < n by omega)
      have hw : IntKind.wrap .i64 ((i : Int) + 1) = i + 1 := i64_in _ (by omega)
      have hw1 : IntKind.wrap .i64 (k + (i : Int) + 1) = k + ((i + 1 : Nat) : Int) := by rw [i64_in _ (by omega)]; omega
      simp only [go_sem, pl32, e0, e1, e5, hz, hl, hx, h0, hw, hw1]
      exact ⟨q - 1, by omega, i + 1, rfl, rfl, by omega⟩
    · simp only [go_sem, e0, e1, e5, hl, hz]
      have : i = n := by omega
      rw [this]
end Go.Proofs.Ytmpbbjdkpdakeaa
