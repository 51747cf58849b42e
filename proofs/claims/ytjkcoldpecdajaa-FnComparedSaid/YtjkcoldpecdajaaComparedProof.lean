/- For every two slices of bytes, laws.FnCompared returns true and leaves its arguments as they were ('Rows.FnComparedSaid'). Conditions: none. The frame of this text was written by the kit's proof-skeleton.mjs. -/
import Derived.Test.YtjkcoldpecdajaaAbs3
import Derived.Below
import Derived.Test.YtjkcoldpecdajaaRows
import Derived.WalkKit
import Derived.ProofKit
import Derived.OpenShut
import Derived.ShutString
import Derived.ChangeOld
import Derived.Test.YtjkcoldpecdajaaW4
/- The abstract machine, part V: from a contract to a walk, for a law's row. -/
set_option linter.unusedVariables false
set_option linter.unusedSimpArgs false
namespace Go.Abs
open Go.RowKit
theorem walk_of_acall {P : Program} {g : FuncId} {avs : List AV} {vs : Array Value} {w : World} (h : ACall P g avs H0 fun r _ => r = .bool true) (hs : vs.size = avs.length)
    (hr : ∀ (i : Nat) (x : AV) (v : Value), avs[i]? = some x → vs[i]? = some v → FRel (fun _ => False) w x v) : Calls P g vs w fun e w' => e = .returned (.bool true) ∧ Below w.heap.size w w' := by
  let B : Base := ⟨w, fun _ => False, fun _ => False, fun _ => none⟩
  have hS : St B (fun _ => none) H0 (fun _ => False) w := by
    refine ⟨Keeps.refl _ _, ?_, ?_, ?_, ?_, ?_, ?_, ?_, ?_, ?_⟩
    · intro b h; exact h.elim
    · intro b h; exact h.elim
    · intro b h; exact h.elim
    · intro b h; exact h.elim
    · intro i v T sz cs b sh _ hc; cases hc
    · intro i v T sz cs b sh hc; cases hc
    · intro i j b s1 s2 hc; cases hc
    · intro i v T sz cs b sh hc; cases hc
    · intro i v T sz cs hc; cases hc
  refine (h.2 B _ _ w vs hS hs fun i x v h1 h2 => .fz (hr i x v h1 h2)).mono fun e w' => ?_
  rintro ⟨v, m', H', N', x, rfl, rfl, hS', _, hx⟩
  have hv := rel_bool hx
  refine ⟨by rw [hv], hS'.keep.os, hS'.keep.tape, hS'.keep.output, hS'.keep.size, fun k hk => hS'.keep.block k hk (fun h => h)⟩
theorem frel_ints {w : World} {k : IntKind} {x : Addr} {len cap : Nat} {zs : List Int} (hl : len ≤ cap) (hz : zs.length = cap) (hc : ∀ i, i < zs.length → w.cell? (x.add i) = some (.int k (zs.getD i 0))) :
    FRel (fun _ => False) w (.sl 1 ((zs.take len).map fun n => .int k n)) (.slice (some x) len cap) := by
  by_cases h0 : len = 0
  · subst h0; exact .sl0 ..
  · obtain ⟨b, o, s⟩ := x
    have hs : s = none := by
      have := hc 0 (by omega)
      cases s with
      | none => rfl
      | some s =>
        simp only [Addr.add, if_true, World.cell?] at this
        split at this <;> simp at this
    subst hs
    have hlen : ((zs.take len).map fun n => AV.int k n).length = len := by simp; omega
    have hb : b < w.heap.size := block_of_cell (o := o) (v := .int k (zs.getD 0 0)) (by have := hc 0 (by omega); simpa [Addr.add] using this)
    have := FRel.sl (N := fun _ => False) (w := w) 1 ((zs.take len).map fun n => AV.int k n) b o cap (fun j _ => .int k (zs.getD j 0)) (by simp) hb ?_ (by omega) ?_ ?_ ?_
    · rw [hlen] at this; exact this
    · intro e; rw [e] at hlen; simp at hlen; omega
    · intro j e he
      simp only [List.getElem?_map, Option.map_eq_some_iff] at he
      obtain ⟨n, _, rfl⟩ := he
      rfl
    · intro j e i x he hx
      simp only [List.getElem?_map, Option.map_eq_some_iff] at he
      obtain ⟨n, hn, rfl⟩ := he
      have hj : j < len := by have := (List.getElem?_eq_some_iff.1 hn).1; simp at this; omega
      cases i with
      | succ i => simp [flat] at hx
      | zero =>
        have := hc j (by omega)
        rw [addr_add] at this
        simpa using this
    · intro j e i x he hx
      simp only [List.getElem?_map, Option.map_eq_some_iff] at he
      obtain ⟨n, hn, rfl⟩ := he
      cases i with
      | succ i => simp [flat] at hx
      | zero =>
        simp [flat] at hx; subst hx
        have hj : j < len := by have := (List.getElem?_eq_some_iff.1 hn).1; simp at this; omega
        rw [List.getElem?_take_of_lt hj] at hn
        have : zs.getD j 0 = n := by rw [List.getD_eq_getElem?_getD, hn]; rfl
        rw [this]
        exact .int k n
end Go.Abs


namespace Go.Proofs.Ytjkcoldpecdajaa.fnCompared
open Go.ChangeShapes Go.WideShapes Go.ChangeAt Go.RowKit
open Go.ChangeMaps (open_string shut_string)
set_option linter.unusedVariables false

theorem own : ownKnob Try.prog.godebug = none := by kernel_rfl
theorem laidOut : laidOutB Try.prog = true := by kernel_rfl

/-- WHAT THE WALK IS TOLD OF A SLICE OF INTEGERS THAT CAME IN: it is nil; or it leads to a row of 'cap' cells, the numbers 'zs' (the first 'len' are its elements, the rest its spare room), each fitting its kind. -/
def IsRow (k : IntKind) (w : World) (a : Option Addr) (len cap : Nat) (zs : List Int) : Prop :=
  (a = none ∧ len = 0 ∧ cap = 0 ∧ zs = []) ∨
  ∃ x, a = some x ∧ len ≤ cap ∧ cap ≤ maxLen ∧ zs.length = cap ∧ (∀ i, i < zs.length → w.cell? (x.add i) = some (.int k (zs.getD i 0))) ∧ ∀ n ∈ zs, (Lit.int k n).wf = true

/-! ### STEP 1: THE WALK: the Go text returns true, AND WRITES NOTHING THAT WAS THERE: 'Below w.heap.size w w'' (Derived/Below.lean: '.refl', '.alloc', '.drew', '.setCell' at a new block, '.trans'). Open each 'IsRow' by 'rcases' AHEAD of 'go_enter'; part every test ahead of the walk. -/
theorem walk (a0 : Option Addr) (len0 cap0 : Nat) (z0 : List Int) (a1 : Option Addr) (len1 cap1 : Nat) (z1 : List Int) (w : World) (w0 : IsRow .u8 w a0 len0 cap0 z0) (w1 : IsRow .u8 w a1 len1 cap1 z1) :
    Calls Try.prog 4 #[.slice a0 len0 cap0, .slice a1 len1 cap1] w fun e w' => e = .returned (.bool true) ∧ Below w.heap.size w w' := by
  have key : ∀ (a : Option Addr) (len cap : Nat) (zs : List Int), IsRow .u8 w a len cap zs → ∃ code : List Int, (∀ b ∈ code, 0 ≤ b ∧ b ≤ 255) ∧ code.length ≤ 9223372036854775807 ∧ Go.Abs.FRel (fun _ => False) w (eB code) (.slice a len cap) := by
    intro a len cap zs h
    rcases h with ⟨rfl, rfl, rfl, rfl⟩ | ⟨x, rfl, hl, hm, hz, hc, hw⟩
    · exact ⟨[], by simp, by simp, .sl0 ..⟩
    · refine ⟨zs.take len, fun b hb => ?_, ?_, Go.Abs.frel_ints hl hz hc⟩
      · have := hw b (List.mem_of_mem_take hb)
        simp only [Lit.wf, Bool.and_eq_true, decide_eq_true_eq] at this
        exact this
      · have h1 : (zs.take len).length ≤ len := by simp; omega
        have h2 : maxLen ≤ 9223372036854775807 := by decide
        omega
  obtain ⟨code, hc1, hc2, hc3⟩ := key a0 len0 cap0 z0 w0
  obtain ⟨more, hm1, hm2, hm3⟩ := key a1 len1 cap1 z1 w1
  refine Go.Abs.walk_of_acall (c_law4 hc1 hm1 hc2 rfl) rfl fun i x v h1 h2 => ?_
  match i with
  | 0 => simp at h1 h2; subst h1 h2; exact hc3
  | 1 => simp at h1 h2; subst h1 h2; exact hm3
  | i + 2 => simp at h1

/-! ### THE ROW's STEP: WRITTEN OUT: LEAVE IT -/
set_option maxRecDepth 100000 in
theorem lifted (os : Os) (started : os.Started) (H : Type) (enc : TypeId × Value → H) :
    ReturnsInHanded {} Try.checked os 4 .any (Rows.fnComparedSpec.pre6 enc Try.prog Try.f4 Rows.fnComparedRow.domain false) (Rows.fnComparedSpec.post enc Try.prog Try.f4 false true false false) := by
  refine returnsInHanded_of_change (C := Try.checked) own started (by kernel_rfl) Try.func4
    (ChangeSpec.witness6 (enc := enc) (C := Try.checked) false ⟨#[], #[.slice none 0 0, .slice none 0 0], []⟩ 8 (by kernel_rfl) (by kernel_rfl) (by kernel_rfl) (by kernel_rfl)) ?_
  intro W base args ds gs before hval0 hW hcnd _
  have hval : ∀ (j : Nat) t v, Try.f4.params[j]? = some t → args[j]? = some v → Value.okWide Try.prog W .any base t v := hval0
  have hW' := hW
  obtain ⟨p, q, hA0, hV, rfl, hfz, hnd⟩ := hW
  have hA : DataW.TrodAll enc Try.prog W 0 (fun _ => true) true Try.f4.params.toList args.toList ds p := hA0
  rw [Try.params4] at hA hval
  obtain ⟨v0, vs0, d0, ds0, p0, q0, hargs, rfl, rfl, h0, r0⟩ := trodAll_cons hA
  obtain ⟨v1, vs1, d1, ds1, p1, q1, rfl, rfl, rfl, h1, r1⟩ := trodAll_cons r0
  obtain ⟨rfl, rfl, rfl⟩ := trodAll_nil r1
  obtain rfl : args = #[v0, v1] := by cases args; simp_all
  obtain ⟨rfl, rfl⟩ := trodVars_none hV
  obtain ⟨a0, len0, cap0, rfl⟩ := okWide_slice Try.underlying22 (hval 0 22 v0 rfl rfl)
  have k0 := h0
  have lt0 : ∀ x ∈ p0, x.block < W.heap.size := by obtain ⟨m, hm⟩ := k0; exact DataW.trod_lt m _ _ _ hm
  obtain ⟨z0, w0⟩ : ∃ zs, IsRow .u8 W a0 len0 cap0 zs := by
    obtain ⟨fuel, hf⟩ := h0
    rcases open_ints Try.underlying22 Try.underlying5 (by kernel_rfl) hf with ⟨hcs, _⟩ | ⟨x, l, c, zs, hcs, _, hl, hm, hz, _, hcell, hwz⟩
    · simp [Value.cells] at hcs
      obtain ⟨rfl, rfl, rfl⟩ := hcs
      exact ⟨[], .inl ⟨rfl, rfl, rfl, rfl⟩⟩
    · simp [Value.cells] at hcs
      obtain ⟨rfl, rfl, rfl⟩ := hcs
      exact ⟨zs, .inr ⟨_, rfl, hl, hm, by simpa using hz, hcell, hwz⟩⟩
  obtain ⟨a1, len1, cap1, rfl⟩ := okWide_slice Try.underlying22 (hval 1 22 v1 rfl rfl)
  have k1 := h1
  have lt1 : ∀ x ∈ p1, x.block < W.heap.size := by obtain ⟨m, hm⟩ := k1; exact DataW.trod_lt m _ _ _ hm
  obtain ⟨z1, w1⟩ : ∃ zs, IsRow .u8 W a1 len1 cap1 zs := by
    obtain ⟨fuel, hf⟩ := h1
    rcases open_ints Try.underlying22 Try.underlying5 (by kernel_rfl) hf with ⟨hcs, _⟩ | ⟨x, l, c, zs, hcs, _, hl, hm, hz, _, hcell, hwz⟩
    · simp [Value.cells] at hcs
      obtain ⟨rfl, rfl, rfl⟩ := hcs
      exact ⟨[], .inl ⟨rfl, rfl, rfl, rfl⟩⟩
    · simp [Value.cells] at hcs
      obtain ⟨rfl, rfl, rfl⟩ := hcs
      exact ⟨zs, .inr ⟨_, rfl, hl, hm, by simpa using hz, hcell, hwz⟩⟩
  clear hA0 hval0
  refine (walk a0 len0 cap0 z0 a1 len1 cap1 z1 W w0 w1).mono fun e W' ⟨he, bel⟩ => ?_
  subst he
  exact ⟨_, rfl, _, _, _, [], _, [], hW', trodAll_mk1 (shut_bool Try.underlying4 _), (trodAll_cons_mk (Below.trod laidOut (by kernel_rfl) (of_decide_eq_true (by kernel_rfl)) k0 bel lt0) (trodAll_cons_mk (Below.trod laidOut (by kernel_rfl) (of_decide_eq_true (by kernel_rfl)) k1 bel lt1) trodAll_mk0)), rfl, bel.frame _, fun h => by cases h⟩

theorem over : Rows.fnComparedRow.holds Try.pinned (OpenSpec.ofChange Rows.fnComparedSpec) :=
  OpenClaim.holds_of_wide 4 Try.f4 rfl rfl rfl rfl rfl rfl rfl ⟨rfl, rfl, rfl, rfl, rfl⟩ rfl rfl rfl rfl rfl (by kernel_rfl) Try.func4 (by kernel_rfl)
    (of_decide_eq_true (by kernel_rfl)) (by unfold Func.isWrapper; first | (rw [if_pos (by decide +kernel)]; kernel_rfl) | (rw [if_neg (by decide +kernel)]; exact ⟨rfl, rfl⟩))
    (fun os started H enc _ => lifted os started H enc)

/-- ████ THE STATEMENT ████ -/
theorem proved : Rows.FnComparedSaid := over
#print axioms proved
end Go.Proofs.Ytjkcoldpecdajaa.fnCompared
