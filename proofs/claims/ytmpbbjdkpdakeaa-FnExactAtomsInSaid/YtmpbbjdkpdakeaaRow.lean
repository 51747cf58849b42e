/- Texts of ours, joined: YtmpbbjdkpdakeaaAbsV YtmpbbjdkpdakeaaAbsW YtmpbbjdkpdakeaaXS. -/
import Derived.Test.YtmpbbjdkpdakeaaAbs3
import Derived.Below
import Derived.ChangeArms
import Derived.WideShapes
import Derived.DataReads
import Derived.Test.YtmpbbjdkpdakeaaRows
import Derived.Test.YtmpbbjdkpdakeaaE1
import Derived.WalkKit
import Derived.ProofKit
import Derived.OpenShut
import Derived.ShutString
import Derived.ChangeOld
/- Texts of ours, joined: AbsV. -/
/- The abstract machine, part V: from a contract to a walk, for a law's row. -/
set_option linter.unusedVariables false
set_option linter.unusedSimpArgs false
namespace Go.Abs
open Go.RowKit
theorem walk_of_acall {P : Program} {g : FuncId} {avs : List AV} {vs : Array Value} {w : World} (h : ACall P g avs H0 fun r _ => r = .bool true) (hs : vs.size = avs.length)
    (hr : ∀ (i : Nat) (x : AV) (v : Value), avs[i]? = some x → vs[i]? = some v → FRel (fun _ => False) w x v) : Calls P g vs w fun e w' => e = .returned (.bool true) ∧ Below w.heap.size w w' := by
  let B : Base := ⟨w, fun _ => False, fun _ => False, fun _ => none⟩
  have hS : St B (fun _ => none) H0 (fun _ => False) w := by
    refine ⟨Keeps.refl _ _, ?_, ?_, ?_, ?_, ?_, ?_, ?_, ?_, ?_⟩
    · intro b h; exact h.elim
    · intro b h; exact h.elim
    · intro b h; exact h.elim
    · intro b h; exact h.elim
    · intro i v T sz cs b sh _ hc; cases hc
    · intro i v T sz cs b sh hc; cases hc
    · intro i j b s1 s2 hc; cases hc
    · intro i v T sz cs b sh hc; cases hc
    · intro i v T sz cs hc; cases hc
  refine (h.2 B _ _ w vs hS hs fun i x v h1 h2 => .fz (hr i x v h1 h2)).mono fun e w' => ?_
  rintro ⟨v, m', H', N', x, rfl, rfl, hS', _, hx⟩
  have hv := rel_bool hx
  refine ⟨by rw [hv], hS'.keep.os, hS'.keep.tape, hS'.keep.output, hS'.keep.size, fun k hk => hS'.keep.block k hk (fun h => h)⟩
theorem frel_ints {w : World} {k : IntKind} {x : Addr} {len cap : Nat} {zs : List Int} (hl : len ≤ cap) (hz : zs.length = cap) (hc : ∀ i, i < zs.length → w.cell? (x.add i) = some (.int k (zs.getD i 0))) :
    FRel (fun _ => False) w (.sl 1 ((zs.take len).map fun n => .int k n)) (.slice (some x) len cap) := by
  by_cases h0 : len = 0
  · subst h0; exact .sl0 ..
  · obtain ⟨b, o, s⟩ := x
    have hs : s = none := by
      have := hc 0 (by omega)
      cases s with
      | none => rfl
      | some s =>
        simp only [Addr.add, if_true, World.cell?] at this
        split at this <;> simp at this
    subst hs
    have hlen : ((zs.take len).map fun n => AV.int k n).length = len := by simp; omega
    have hb : b < w.heap.size := block_of_cell (o := o) (v := .int k (zs.getD 0 0)) (by have := hc 0 (by omega); simpa [Addr.add] using this)
    have := FRel.sl (N := fun _ => False) (w := w) 1 ((zs.take len).map fun n => AV.int k n) b o cap (fun j _ => .int k (zs.getD j 0)) (by simp) hb ?_ (by omega) ?_ ?_ ?_
    · rw [hlen] at this; exact this
    · intro e; rw [e] at hlen; simp at hlen; omega
    · intro j e he
      simp only [List.getElem?_map, Option.map_eq_some_iff] at he
      obtain ⟨n, _, rfl⟩ := he
      rfl
    · intro j e i x he hx
      simp only [List.getElem?_map, Option.map_eq_some_iff] at he
      obtain ⟨n, hn, rfl⟩ := he
      have hj : j < len := by have := (List.getElem?_eq_some_iff.1 hn).1; simp at this; omega
      cases i with
      | succ i => simp [flat] at hx
      | zero =>
        have := hc j (by omega)
        rw [addr_add] at this
        simpa using this
    · intro j e i x he hx
      simp only [List.getElem?_map, Option.map_eq_some_iff] at he
      obtain ⟨n, hn, rfl⟩ := he
      cases i with
      | succ i => simp [flat] at hx
      | zero =>
        simp [flat] at hx; subst hx
        have hj : j < len := by have := (List.getElem?_eq_some_iff.1 hn).1; simp at this; omega
        rw [List.getElem?_take_of_lt hj] at hn
        have : zs.getD j 0 = n := by rw [List.getD_eq_getElem?_getD, hn]; rfl
        rw [this]
        exact .int k n
end Go.Abs

/- The abstract machine, part W: what a row's argument holds, read off the row: ints, words, structs and slices of them, to any depth. -/
set_option linter.unusedVariables false
set_option linter.unusedSimpArgs false
namespace Go.Abs
open Go.RowKit
abbrev NF : Nat → Prop := fun _ => False
/-- Cells are these frozen values. -/
def DRel (w : World) (cs : List Value) (al : List AV) : Prop := cs.length = al.length ∧ ∀ (i : Nat) (x : AV) (v : Value), al[i]? = some x → cs[i]? = some v → FRel NF w x v
/-- Whatever is read at this type is one of 'enc a', with 'Q a'. -/
def Rd {H : Type} (enc0 : TypeId × Value → H) (P : Program) (w : World) (T : TypeId) {α : Type} (enc : α → List AV) (Q : α → Prop) : Prop :=
  ∀ (fuel : Nat) (cs : List Value) (x : DataW H × List MemPlace), DataW.trod enc0 P w 0 (fun _ => true) true fuel T cs = some x → ∃ a, Q a ∧ DRel w cs (enc a)
theorem DRel.one {w : World} {v : Value} {a : AV} (h : FRel NF w a v) : DRel w [v] [a] := by
  refine ⟨rfl, fun i x v' h1 h2 => ?_⟩
  match i with
  | 0 => simp at h1 h2; subst h1 h2; exact h
  | i + 1 => simp at h1
theorem DRel.app {w : World} {cs : List Value} {a b : List AV} (h0 : DRel w (cs.take a.length) a) (h1 : DRel w (cs.drop a.length) b) (hl : cs.length = a.length + b.length) : DRel w cs (a ++ b) := by
  refine ⟨by simp [hl], fun i x v hx hv => ?_⟩
  by_cases h : i < a.length
  · rw [List.getElem?_append_left h] at hx
    exact h0.2 i x v hx (by rw [List.getElem?_take_of_lt h]; exact hv)
  · rw [List.getElem?_append_right (by omega)] at hx
    exact h1.2 (i - a.length) x v hx (by rw [List.getElem?_drop, show a.length + (i - a.length) = i by omega]; exact hv)
section
variable {H : Type} {enc0 : TypeId × Value → H} {P : Program} {w : World}
theorem rd_int {T : TypeId} {k : IntKind} (ht : P.underlying T = some (.int k)) : Rd enc0 P w T (fun n : Int => [.int k n]) (fun n => (Lit.int k n).wf = true) := by
  intro fuel cs x h
  obtain ⟨n, rfl, _, hw⟩ := DataW.trod_int ht h
  exact ⟨n, hw, .one (.int k n)⟩
theorem rd_nat {T : TypeId} {k : IntKind} (ht : P.underlying T = some (.int k)) (hs : ∀ n : Int, (Lit.int k n).wf = true → 0 ≤ n) : Rd enc0 P w T (fun n : Nat => [.int k (n : Int)]) (fun n => (Lit.int k n).wf = true) := by
  intro fuel cs x h
  obtain ⟨n, rfl, _, hw⟩ := DataW.trod_int ht h
  have e : ((n.toNat : Nat) : Int) = n := Int.toNat_of_nonneg (hs n hw)
  refine ⟨n.toNat, by simp only [e]; exact hw, ?_⟩
  simp only [e]
  exact .one (.int k n)
theorem rd_mono {T : TypeId} {α β : Type} {enc : α → List AV} {enc' : β → List AV} {Q : α → Prop} {Q' : β → Prop} (h : Rd enc0 P w T enc Q) (f : α → β) (hf : ∀ a, Q a → Q' (f a) ∧ enc a = enc' (f a)) : Rd enc0 P w T enc' Q' := by
  intro fuel cs x hx
  obtain ⟨a, hq, hc⟩ := h fuel cs x hx
  exact ⟨f a, (hf a hq).1, by rw [← (hf a hq).2]; exact hc⟩
theorem rd_struct2 {T : TypeId} {f0 f1 : Field} (ht : P.underlying T = some (.struct #[f0, f1])) {α β : Type} {e0 : α → List AV} {e1 : β → List AV} {Q0 : α → Prop} {Q1 : β → Prop}
    (h0 : Rd enc0 P w f0.type e0 Q0) (h1 : Rd enc0 P w f1.type e1 Q1) {n0 n1 : Nat} (o0 : f0.offset = 0) (c0 : P.cellsOf f0.type = n0) (o1 : f1.offset = n0) (c1 : P.cellsOf f1.type = n1) (c : P.cellsOf T = n0 + n1) :
    Rd enc0 P w T (fun x : α × β => e0 x.1 ++ e1 x.2) (fun x => Q0 x.1 ∧ Q1 x.2) := by
  intro fuel cs x hx
  obtain ⟨xs, m, _, _, hl, hn, hf⟩ := DataW.trod_struct ht hx
  have g0 := hf 0 f0 rfl
  have g1 := hf 1 f1 rfl
  rw [List.getElem?_eq_getElem (by rw [hn]; simp)] at g0 g1
  obtain ⟨a, ha, ka⟩ := h0 _ _ _ g0
  obtain ⟨b, hb, kb⟩ := h1 _ _ _ g1
  rw [o0, c0, List.drop_zero] at ka
  rw [o1, c1, List.take_of_length_le (by simp; omega)] at kb
  have la : (e0 a).length = n0 := by have := ka.1; simp at this; omega
  have lb : (e1 b).length = n1 := by have := kb.1; simp at this; omega
  refine ⟨(a, b), ⟨ha, hb⟩, .app (by rw [la]; exact ka) (by rw [la]; exact kb) (by show cs.length = (e0 a).length + (e1 b).length; omega)⟩
theorem rd_struct3 {T : TypeId} {f0 f1 f2 : Field} (ht : P.underlying T = some (.struct #[f0, f1, f2])) {α β γ : Type} {e0 : α → List AV} {e1 : β → List AV} {e2 : γ → List AV} {Q0 : α → Prop} {Q1 : β → Prop} {Q2 : γ → Prop}
    (h0 : Rd enc0 P w f0.type e0 Q0) (h1 : Rd enc0 P w f1.type e1 Q1) (h2 : Rd enc0 P w f2.type e2 Q2) {n0 n1 n2 : Nat} (o0 : f0.offset = 0) (c0 : P.cellsOf f0.type = n0) (o1 : f1.offset = n0) (c1 : P.cellsOf f1.type = n1) (o2 : f2.offset = n0 + n1) (c2 : P.cellsOf f2.type = n2)
    (c : P.cellsOf T = n0 + n1 + n2) :
    Rd enc0 P w T (fun x : α × β × γ => e0 x.1 ++ (e1 x.2.1 ++ e2 x.2.2)) (fun x => Q0 x.1 ∧ Q1 x.2.1 ∧ Q2 x.2.2) := by
  intro fuel cs x hx
  obtain ⟨xs, m, _, _, hl, hn, hf⟩ := DataW.trod_struct ht hx
  have g0 := hf 0 f0 rfl
  have g1 := hf 1 f1 rfl
  have g2 := hf 2 f2 rfl
  rw [List.getElem?_eq_getElem (by rw [hn]; simp)] at g0 g1 g2
  obtain ⟨a, ha, ka⟩ := h0 _ _ _ g0
  obtain ⟨b, hb, kb⟩ := h1 _ _ _ g1
  obtain ⟨d, hd, kd⟩ := h2 _ _ _ g2
  rw [o0, c0, List.drop_zero] at ka
  rw [o1, c1] at kb
  rw [o2, c2, List.take_of_length_le (by simp; omega)] at kd
  have la : (e0 a).length = n0 := by have := ka.1; simp at this; omega
  have lb : (e1 b).length = n1 := by have := kb.1; simp at this; omega
  have ld : (e2 d).length = n2 := by have := kd.1; simp at this; omega
  refine ⟨(a, b, d), ⟨ha, hb, hd⟩, .app (by rw [la]; exact ka) (by rw [la]; exact .app (by rw [lb]; exact kb) (by rw [lb, List.drop_drop]; exact kd) (by simp; omega)) (by simp; omega)⟩
theorem rd_struct4 {T : TypeId} {f0 f1 f2 f3 : Field} (ht : P.underlying T = some (.struct #[f0, f1, f2, f3])) {α β γ δ : Type} {e0 : α → List AV} {e1 : β → List AV} {e2 : γ → List AV} {e3 : δ → List AV} {Q0 : α → Prop} {Q1 : β → Prop} {Q2 : γ → Prop} {Q3 : δ → Prop}
    (h0 : Rd enc0 P w f0.type e0 Q0) (h1 : Rd enc0 P w f1.type e1 Q1) (h2 : Rd enc0 P w f2.type e2 Q2) (h3 : Rd enc0 P w f3.type e3 Q3) {n0 n1 n2 n3 : Nat} (o0 : f0.offset = 0) (c0 : P.cellsOf f0.type = n0) (o1 : f1.offset = n0) (c1 : P.cellsOf f1.type = n1)
    (o2 : f2.offset = n0 + n1) (c2 : P.cellsOf f2.type = n2) (o3 : f3.offset = n0 + n1 + n2) (c3 : P.cellsOf f3.type = n3) (c : P.cellsOf T = n0 + n1 + n2 + n3) :
    Rd enc0 P w T (fun x : α × β × γ × δ => e0 x.1 ++ (e1 x.2.1 ++ (e2 x.2.2.1 ++ e3 x.2.2.2))) (fun x => Q0 x.1 ∧ Q1 x.2.1 ∧ Q2 x.2.2.1 ∧ Q3 x.2.2.2) := by
  intro fuel cs x hx
  obtain ⟨xs, m, _, _, hl, hn, hf⟩ := DataW.trod_struct ht hx
  have g0 := hf 0 f0 rfl
  have g1 := hf 1 f1 rfl
  have g2 := hf 2 f2 rfl
  have g3 := hf 3 f3 rfl
  rw [List.getElem?_eq_getElem (by rw [hn]; simp)] at g0 g1 g2 g3
  obtain ⟨a, ha, ka⟩ := h0 _ _ _ g0
  obtain ⟨b, hb, kb⟩ := h1 _ _ _ g1
  obtain ⟨d, hd, kd⟩ := h2 _ _ _ g2
  obtain ⟨g, hg, kg⟩ := h3 _ _ _ g3
  rw [o0, c0, List.drop_zero] at ka
  rw [o1, c1] at kb
  rw [o2, c2] at kd
  rw [o3, c3, List.take_of_length_le (by simp; omega)] at kg
  have la : (e0 a).length = n0 := by have := ka.1; simp at this; omega
  have lb : (e1 b).length = n1 := by have := kb.1; simp at this; omega
  have ld : (e2 d).length = n2 := by have := kd.1; simp at this; omega
  have lg : (e3 g).length = n3 := by have := kg.1; simp at this; omega
  refine ⟨(a, b, d, g), ⟨ha, hb, hd, hg⟩, .app (by rw [la]; exact ka) (by rw [la]; exact .app (by rw [lb]; exact kb) (by
    rw [lb, List.drop_drop]; exact .app (by rw [ld]; exact kd) (by rw [ld, List.drop_drop]; exact kg) (by simp; omega)) (by simp; omega)) (by simp; omega)⟩
/-- A list of what can be read, one by one. -/
theorem pick_list {α : Type} (R : Nat → α → Prop) : ∀ (n : Nat), (∀ i, i < n → ∃ a, R i a) → ∃ l : List α, l.length = n ∧ ∀ i a, l[i]? = some a → R i a
  | 0, _ => ⟨[], rfl, fun i a h => by simp at h⟩
  | n + 1, h => by
    obtain ⟨l, hl, hr⟩ := pick_list R n fun i hi => h i (by omega)
    obtain ⟨a, ha⟩ := h n (by omega)
    refine ⟨l ++ [a], by simp [hl], fun i b hb => ?_⟩
    by_cases hi : i < n
    · rw [List.getElem?_append_left (by omega)] at hb; exact hr i b hb
    · have hlt := (List.getElem?_eq_some_iff.1 hb).1
      simp [hl] at hlt
      have : i = n := by omega
      subst this
      rw [List.getElem?_append_right (by omega)] at hb
      simp [hl] at hb
      subst hb; exact ha
theorem rd_slice {T e : TypeId} {sz : Nat} (ht : P.underlying T = some (.slice e)) (hc : P.cellsOf e = sz) (hz : 0 < sz) {α : Type} {enc : α → List AV} {Q : α → Prop} (h : Rd enc0 P w e enc Q) (g : α → AV) (hg : ∀ a, flat (g a) = enc a) :
    Rd enc0 P w T (fun l : List α => [.sl sz (l.map g)]) (fun l => l.length ≤ maxLen ∧ ∀ a ∈ l, Q a) := by
  intro fuel cs x hx
  rcases DataW.trod_slice ht hx with ⟨rfl, _⟩ | ⟨a, len, cap, elems, rest, n, _, rfl, _, hb, hl, hm, hlen, hel, _, _⟩
  · exact ⟨[], ⟨by simp, by simp⟩, .one (.sl0 ..)⟩
  · by_cases h0 : len = 0
    · subst h0
      exact ⟨[], ⟨by simp, by simp⟩, .one (.sl0 ..)⟩
    · rw [hc] at hel
      have each : ∀ i, i < len → ∃ b : α, Q b ∧ ∃ cs', DRel w cs' (enc b) ∧ cs'.length = sz ∧ ∀ j, j < sz → w.cell? ((a.add (i * sz)).add j) = cs'[j]? := by
        intro i hi
        have := hel i hi
        rw [List.getElem?_eq_getElem (by omega)] at this
        obtain ⟨cs', h1, h2⟩ := Option.bind_eq_some_iff.1 this
        obtain ⟨b, hq, hr⟩ := h _ _ _ h2
        obtain ⟨_, h3, h4⟩ := World.cells?_some h1
        exact ⟨b, hq, cs', hr, h3, h4⟩
      obtain ⟨l, hll, hlr⟩ := pick_list (fun i b => Q b ∧ ∃ cs', DRel w cs' (enc b) ∧ cs'.length = sz ∧ ∀ j, j < sz → w.cell? ((a.add (i * sz)).add j) = cs'[j]?) len each
      obtain ⟨b, o, s⟩ := a
      have hs : s = none := by
        obtain ⟨_, _, cs', _, h3, h4⟩ := each 0 (by omega)
        have h5 := h4 0 hz
        rw [List.getElem?_eq_getElem (by omega)] at h5
        have := World.cell?_spot h5
        cases s with
        | none => rfl
        | some s => simp [Addr.add] at this
      subst hs
      have at' : ∀ i j, ((⟨b, o, none⟩ : Addr).add (i * sz)).add j = ⟨b, o + (i * sz + j), none⟩ := fun i j => by rw [Go.WideShapes.add_plain, Go.WideShapes.add_plain, Nat.add_assoc]
      have hbk : b < w.heap.size := by
        obtain ⟨_, _, cs', _, h3, h4⟩ := each 0 (by omega)
        have h5 := h4 0 hz
        rw [List.getElem?_eq_getElem (by omega), at'] at h5
        exact block_of_cell h5
      refine ⟨l, ⟨by omega, fun x hx => ?_⟩, .one ?_⟩
      · obtain ⟨i, hi⟩ := List.getElem?_of_mem hx
        exact (hlr i x hi).1
      · have hlen' : (l.map g).length = len := by simp [hll]
        have := FRel.sl (N := NF) (w := w) sz (l.map g) b o cap (fun i j => (w.cell? ⟨b, o + (i * sz + j), none⟩).getD (.bool false)) (by simp [NF]) hbk (by intro e; rw [e] at hlen'; simp at hlen'; omega) (by omega) ?_ ?_ ?_
        · rw [hlen'] at this; exact this
        · intro i y hy
          simp only [List.getElem?_map, Option.map_eq_some_iff] at hy
          obtain ⟨x, hx, rfl⟩ := hy
          obtain ⟨_, cs', hr, h3, _⟩ := hlr i x hx
          rw [hg, ← hr.1, h3]
        · intro i y j z hy hz'
          simp only [List.getElem?_map, Option.map_eq_some_iff] at hy
          obtain ⟨x, hx, rfl⟩ := hy
          obtain ⟨_, cs', hr, h3, h4⟩ := hlr i x hx
          rw [hg] at hz'
          have hj : j < sz := by have h5 := (List.getElem?_eq_some_iff.1 hz').1; have h6 := hr.1; omega
          have h7 := h4 j hj
          rw [at', List.getElem?_eq_getElem (by omega)] at h7
          rw [h7]; rfl
        · intro i y j z hy hz'
          simp only [List.getElem?_map, Option.map_eq_some_iff] at hy
          obtain ⟨x, hx, rfl⟩ := hy
          obtain ⟨_, cs', hr, h3, h4⟩ := hlr i x hx
          rw [hg] at hz'
          have hj : j < sz := by have h5 := (List.getElem?_eq_some_iff.1 hz').1; have h6 := hr.1; omega
          have h7 := h4 j hj
          rw [at', List.getElem?_eq_getElem (by omega)] at h7
          simp only [h7, Option.getD_some]
          exact hr.2 j z _ hz' (List.getElem?_eq_getElem (by omega))
/-- A struct among the arguments. -/
theorem arg_agg {T : TypeId} {fs : Array Field} {α : Type} {enc : α → List AV} {Q : α → Prop} {v : Value} {d : DataW H} {ps : List MemPlace} {b0 : Nat} {r : Reach} (ht : P.underlying T = some (.struct fs)) (h : Rd enc0 P w T enc Q) (hval : Value.okWide P w r b0 T v)
    (hd : DataW.Trod enc0 P w 0 (fun _ => true) true T v d ps) : ∃ a, Q a ∧ FRel NF w (.agg (enc a)) v := by
  obtain ⟨cs, rfl, _⟩ := Go.WideShapes.okWide_struct ht hval
  obtain ⟨fuel, hf⟩ := hd
  obtain ⟨a, hq, hc⟩ := h _ _ _ hf
  refine ⟨a, hq, .agg _ _ (by have := hc.1; simpa [Value.cells] using this) fun i x v h1 h2 => hc.2 i x v h1 ?_⟩
  simpa [Value.cells] using h2
/-- A slice among the arguments. -/
theorem arg_slice {T e : TypeId} {α : Type} {g : α → AV} {Q : α → Prop} {v : Value} {d : DataW H} {ps : List MemPlace} {b0 : Nat} {r : Reach} (ht : P.underlying T = some (.slice e)) (h : Rd enc0 P w T (fun a => [g a]) Q) (hval : Value.okWide P w r b0 T v)
    (hd : DataW.Trod enc0 P w 0 (fun _ => true) true T v d ps) : ∃ a, Q a ∧ FRel NF w (g a) v := by
  obtain ⟨a, len, cap, rfl⟩ := Go.WideShapes.okWide_slice ht hval
  obtain ⟨fuel, hf⟩ := hd
  obtain ⟨a, hq, hc⟩ := h _ _ _ hf
  exact ⟨a, hq, hc.2 0 _ _ rfl (by simp [Value.cells])⟩
/-- A number among the arguments. -/
theorem arg_int {T : TypeId} {k : IntKind} {α : Type} {g : α → AV} {Q : α → Prop} {v : Value} {d : DataW H} {ps : List MemPlace} {b0 : Nat} {r : Reach} (ht : P.underlying T = some (.int k)) (h : Rd enc0 P w T (fun a => [g a]) Q) (hval : Value.okWide P w r b0 T v)
    (hd : DataW.Trod enc0 P w 0 (fun _ => true) true T v d ps) : ∃ a, Q a ∧ FRel NF w (g a) v := by
  obtain ⟨n, rfl, _⟩ := Go.WideShapes.okWide_int ht hval
  obtain ⟨fuel, hf⟩ := hd
  obtain ⟨a, hq, hc⟩ := h _ _ _ hf
  exact ⟨a, hq, hc.2 0 _ _ rfl (by simp [Value.cells])⟩
end
end Go.Abs

set_option linter.unusedVariables false
set_option linter.unusedSimpArgs false
namespace Go.Proofs.Ytmpbbjdkpdakeaa
open Go.Abs Go.IntWalk
set_option maxRecDepth 100000
theorem cellsS : Try.prog.cellsOf 117 = 2 := by kernel_rfl
theorem cellsInt : Try.prog.cellsOf 3 = 1 := by kernel_rfl
section
variable {H : Type} {enc0 : TypeId × Value → H} {w : World}
theorem rdInt : Rd enc0 Try.prog w 3 (fun n => [I64 n]) (fun n => (Lit.int .i64 n).wf = true) := rd_int Try.underlying3
theorem rdS : Rd enc0 Try.prog w 117 cS (fun _ => True) := rd_mono (rd_struct2 Try.underlying117 rdInt rdInt rfl cellsInt rfl cellsInt cellsS) id fun a h => ⟨trivial, rfl⟩
theorem rdSs : Rd enc0 Try.prog w 56 (fun l => [eSs l]) (fun l => l.length ≤ maxLen ∧ ∀ x ∈ l, True) := rd_slice Try.underlying56 cellsS (by omega) rdS eS fun _ => rfl
end
theorem le_max {n : Nat} (h : n ≤ maxLen) : n ≤ 9223372036854775807 := by
  have hm : maxLen = 9223372036854775807 := by decide
  omega
end Go.Proofs.Ytmpbbjdkpdakeaa
