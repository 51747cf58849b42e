/- Texts of ours, joined: AbsA AbsB AbsC AbsD AbsE AbsF AbsG AbsH AbsI. -/
import Derived.WalkKit
import Derived.WalkSpells
import Derived.Laws.StructEq
import Derived.Laws.IdiomCopy
/- The abstract machine, part A: abstract values, blocks, and how they relate to the machine's world. -/
set_option linter.unusedVariables false
set_option linter.unusedSimpArgs false
namespace Go.Abs

/-- Abstract values. -/
inductive AV where
  | int (k : IntKind) (n : Int)
  | bool (b : Bool)
  | str (s : ByteArray)
  | nil
  | nilp
  | sl (sz : Nat) (es : List AV)
  | agg (cs : List AV)
  | tup (vs : List AV)
  | ref (id ver off len : Nat)
  | ptr (id ver off : Nat)
  | adr (x : AV)
  | fn (f : FuncId) (caps : List AV)
  | dead
  deriving Inhabited

/-- An abstract block: gone, or owned by us: its version, element type, size of an element, cells. -/
inductive Blk where
  | gone (ver : Nat)
  | cells (ver : Nat) (T : TypeId) (sz : Nat) (cs : List AV)
  deriving Inhabited

def Blk.ver : Blk → Nat
  | .gone v => v
  | .cells v _ _ _ => v

abbrev Env := Nat → AV
abbrev Heap := Nat → Blk

def upd {α : Type} (f : Nat → α) (i : Nat) (x : α) : Nat → α := fun j => if j = i then x else f j
@[simp] theorem upd_same {α : Type} (f : Nat → α) (i : Nat) (x : α) : upd f i x i = x := by simp [upd]
theorem upd_ne {α : Type} (f : Nat → α) {i j : Nat} (x : α) (h : j ≠ i) : upd f i x j = f j := by simp [upd, h]
theorem upd_apply {α : Type} (f : Nat → α) (i : Nat) (x : α) (j : Nat) : upd f i x j = if j = i then x else f j := rfl
theorem upd_upd {α : Type} (f : Nat → α) (i : Nat) (x y : α) : upd (upd f i x) i y = upd f i y := by
  funext j; simp only [upd]; split <;> rfl
theorem upd_comm {α : Type} (f : Nat → α) {i j : Nat} (x y : α) (h : i ≠ j) : upd (upd f i x) j y = upd (upd f j y) i x := by
  funext k; simp only [upd]
  split
  · split
    · exact absurd (by omega) h
    · rfl
  · rfl

/-- A value's cells. -/
def flat : AV → List AV
  | .agg cs => cs
  | a => [a]

/-- Frozen values: read out of memory that is not ours (outside of 'N'). -/
inductive FRel (N : Nat → Prop) (w : World) : AV → Value → Prop
  | int (k : IntKind) (n : Int) : FRel N w (.int k n) (.int k n)
  | bool (b : Bool) : FRel N w (.bool b) (.bool b)
  | str (s : ByteArray) : FRel N w (.str s) (.string s)
  | nil : FRel N w .nil (.slice none 0 0)
  | nilp : FRel N w .nilp (.pointer none)
  | sl0 (sz : Nat) (A : Option Addr) (c : Nat) : FRel N w (.sl sz []) (.slice A 0 c)
  | sl (sz : Nat) (es : List AV) (b o c : Nat) (f : Nat → Nat → Value) (hN : ¬ N b) (hb : b < w.heap.size) (hne : es ≠ []) (hcap : es.length ≤ c)
      (hsz : ∀ (j : Nat) (e : AV), es[j]? = some e → (flat e).length = sz)
      (hc : ∀ (j : Nat) (e : AV) (i : Nat) (x : AV), es[j]? = some e → (flat e)[i]? = some x → w.cell? ⟨b, o + (j * sz + i), none⟩ = some (f j i))
      (hr : ∀ (j : Nat) (e : AV) (i : Nat) (x : AV), es[j]? = some e → (flat e)[i]? = some x → FRel N w x (f j i)) :
      FRel N w (.sl sz es) (.slice (some ⟨b, o, none⟩) es.length c)
  | agg (cs : List AV) (vs : Array Value) (hn : vs.size = cs.length)
      (hr : ∀ (i : Nat) (x : AV) (v : Value), cs[i]? = some x → vs[i]? = some v → FRel N w x v) : FRel N w (.agg cs) (.agg vs)
  | adr (x : AV) (b o : Nat) (f : Nat → Value) (hN : ¬ N b) (hb : b < w.heap.size)
      (hc : ∀ (i : Nat) (y : AV), (flat x)[i]? = some y → w.cell? ⟨b, o + i, none⟩ = some (f i))
      (hr : ∀ (i : Nat) (y : AV), (flat x)[i]? = some y → FRel N w y (f i)) : FRel N w (.adr x) (.pointer (some ⟨b, o, none⟩))

/-- What a reference into an owned block is: a slice of that block, or nil, if there is no block behind. -/
def RefOk (w : World) (mb : Option (Nat × Nat)) (off len sz : Nat) (v : Value) : Prop :=
  (len = 0 ∧ ∃ A, v = .slice A 0 0) ∨
  ∃ b sh cap c T fz, mb = some (b, sh) ∧ v = .slice (some ⟨b, sh + off, none⟩) len cap ∧ len ≤ cap ∧ w.heap[b]? = some (.cells c T fz) ∧ sh + off + cap * sz ≤ c.size

inductive Rel (m : Nat → Option (Nat × Nat)) (H : Heap) (N : Nat → Prop) (w : World) : AV → Value → Prop
  | fz {a : AV} {v : Value} (h : FRel N w a v) : Rel m H N w a v
  | agg (cs : List AV) (vs : Array Value) (hn : vs.size = cs.length)
      (hr : ∀ (i : Nat) (x : AV) (v : Value), cs[i]? = some x → vs[i]? = some v → Rel m H N w x v) : Rel m H N w (.agg cs) (.agg vs)
  | tup (cs : List AV) (vs : Array Value) (hn : vs.size = cs.length)
      (hr : ∀ (i : Nat) (x : AV) (v : Value), cs[i]? = some x → vs[i]? = some v → Rel m H N w x v) : Rel m H N w (.tup cs) (.tuple vs)
  | fn (f : FuncId) (cs : List AV) (vs : Array Value) (hn : vs.size = cs.length)
      (hr : ∀ (i : Nat) (x : AV) (v : Value), cs[i]? = some x → vs[i]? = some v → Rel m H N w x v) : Rel m H N w (.fn f cs) (.func (.func f) #[] vs)
  | ref (id ver off len : Nat) (v : Value) (h1 : v.oneCell' = true) (hv : ver ≤ (H id).ver)
      (h : ∀ T sz cs, H id = .cells ver T sz cs → RefOk w (m id) off len sz v) : Rel m H N w (.ref id ver off len) v
  | ptr (id ver off : Nat) (v : Value) (h1 : v.oneCell' = true) (hv : ver ≤ (H id).ver)
      (h : ∀ T sz cs, H id = .cells ver T sz cs → ∀ b sh, m id = some (b, sh) → v = .pointer (some ⟨b, sh + off, none⟩)) : Rel m H N w (.ptr id ver off) v
  | dead (v : Value) : Rel m H N w .dead v

/-- Outside of 'N', what was there is as it was. -/
structure Keeps (N : Nat → Prop) (w w' : World) : Prop where
  size : w.heap.size ≤ w'.heap.size
  block : ∀ b, b < w.heap.size → ¬ N b → w'.heap[b]? = w.heap[b]?
  os : w'.os = w.os
  tape : w'.tape = w.tape
  output : w'.output = w.output

theorem Keeps.refl (N : Nat → Prop) (w : World) : Keeps N w w := ⟨Nat.le_refl _, fun _ _ _ => rfl, rfl, rfl, rfl⟩
theorem Keeps.mono {N N' : Nat → Prop} {w w' : World} (h : Keeps N w w') (hn : ∀ b, N b → N' b) : Keeps N' w w' :=
  ⟨h.size, fun b hb hN => h.block b hb fun h' => hN (hn b h'), h.os, h.tape, h.output⟩
theorem Keeps.trans {N N' : Nat → Prop} {w w1 w2 : World} (h : Keeps N w w1) (k : Keeps N' w1 w2) (hn : ∀ b, b < w.heap.size → N' b → N b) : Keeps N w w2 :=
  ⟨Nat.le_trans h.size k.size, fun b hb hN => (k.block b (Nat.lt_of_lt_of_le hb h.size) fun h' => hN (hn b hb h')).trans (h.block b hb hN),
    k.os.trans h.os, k.tape.trans h.tape, k.output.trans h.output⟩

theorem block_of_cell {w : World} {b o : Nat} {v : Value} (h : w.cell? ⟨b, o, none⟩ = some v) : b < w.heap.size := World.block_lt_of_cell? w ⟨b, o, none⟩ h
theorem cell_same {w w' : World} {b o : Nat} (h : w'.heap[b]? = w.heap[b]?) : w'.cell? ⟨b, o, none⟩ = w.cell? ⟨b, o, none⟩ := by
  simp only [World.cell?, h]

theorem FRel.keeps {N N' : Nat → Prop} {w w' : World} (hk : Keeps N w w') (hn : ∀ b, b < w.heap.size → N' b → N b) {a : AV} {v : Value} (h : FRel N w a v) : FRel N' w' a v := by
  induction h with
  | int k n => exact .int k n
  | bool b => exact .bool b
  | str s => exact .str s
  | nil => exact .nil
  | nilp => exact .nilp
  | sl0 sz A c => exact .sl0 sz A c
  | sl sz es b o c f hN hb hne hcap hsz hc hr ih =>
    refine .sl sz es b o c f (fun h => hN (hn b hb h)) (Nat.lt_of_lt_of_le hb hk.size) hne hcap hsz (fun j e i x h1 h2 => ?_) (fun j e i x h1 h2 => ih j e i x h1 h2)
    rw [cell_same (hk.block b hb hN)]
    exact hc j e i x h1 h2
  | agg cs vs hn' hr ih => exact .agg cs vs hn' ih
  | adr x b o f hN hb hc hr ih =>
    refine .adr x b o f (fun h => hN (hn b hb h)) (Nat.lt_of_lt_of_le hb hk.size) (fun i y h1 => ?_) (fun i y h1 => ih i y h1)
    rw [cell_same (hk.block b hb hN)]
    exact hc i y h1

/-- How the state may change while references stay good. -/
structure Ch (m : Nat → Option (Nat × Nat)) (H : Heap) (N : Nat → Prop) (w : World) (m' : Nat → Option (Nat × Nat)) (H' : Heap) (N' : Nat → Prop) (w' : World) : Prop where
  fz : ∀ a v, FRel N w a v → FRel N' w' a v
  ver : ∀ id, (H id).ver ≤ (H' id).ver
  live : ∀ id ver T sz cs, H' id = .cells ver T sz cs → (H id).ver < ver ∨
    (∃ T0 cs0, H id = .cells ver T0 sz cs0) ∧ m' id = m id ∧ ∀ b sh, m id = some (b, sh) → ∀ c T1 z, w.heap[b]? = some (.cells c T1 z) → ∃ c' T1' z', w'.heap[b]? = some (.cells c' T1' z') ∧ c'.size = c.size

theorem Ch.refl (m : Nat → Option (Nat × Nat)) (H : Heap) (N : Nat → Prop) (w : World) : Ch m H N w m H N w :=
  ⟨fun _ _ h => h, fun _ => Nat.le_refl _, fun id ver T sz cs h => .inr ⟨⟨T, cs, h⟩, rfl, fun b sh _ c T1 z h => ⟨c, T1, z, h, rfl⟩⟩⟩

theorem Rel.ch {m m' : Nat → Option (Nat × Nat)} {H H' : Heap} {N N' : Nat → Prop} {w w' : World} (hc : Ch m H N w m' H' N' w') {a : AV} {v : Value} (h : Rel m H N w a v) : Rel m' H' N' w' a v := by
  induction h with
  | fz h => exact .fz (hc.fz _ _ h)
  | agg cs vs hn hr ih => exact .agg cs vs hn ih
  | tup cs vs hn hr ih => exact .tup cs vs hn ih
  | fn f cs vs hn hr ih => exact .fn f cs vs hn ih
  | ref id ver off len v ho hv h =>
    refine .ref id ver off len v ho (Nat.le_trans hv (hc.ver id)) fun T sz cs hl => ?_
    rcases hc.live id ver T sz cs hl with h1 | ⟨⟨T0, cs0, h1⟩, h2, h3⟩
    · omega
    · have h4 := h T0 sz cs0 h1
      rw [h2]
      rcases h4 with h4 | ⟨b, sh, cap, c, T1, z, hm, e1, e2, e3, e4⟩
      · exact .inl h4
      · obtain ⟨c', T1', z', e5, e6⟩ := h3 b sh hm c T1 z e3
        exact .inr ⟨b, sh, cap, c', T1', z', hm, e1, e2, e5, by omega⟩
  | ptr id ver off v ho hv h =>
    refine .ptr id ver off v ho (Nat.le_trans hv (hc.ver id)) fun T sz cs hl b sh hb => ?_
    rcases hc.live id ver T sz cs hl with h1 | ⟨⟨T0, cs0, h1⟩, h2, h3⟩
    · omega
    · exact h T0 sz cs0 h1 b sh (h2 ▸ hb)
  | dead v => exact .dead v

/-- The state between two steps of a call that began in world 'w0' with blocks 'S' handed to it and 'N0' not to be looked into. -/
structure Base where
  w0 : World
  S : Nat → Prop
  N0 : Nat → Prop
  m0 : Nat → Option (Nat × Nat)

structure St (B : Base) (m : Nat → Option (Nat × Nat)) (H : Heap) (N : Nat → Prop) (w : World) : Prop where
  keep : Keeps B.S B.w0 w
  nlt : ∀ b, N b → b < w.heap.size
  n0 : ∀ b, B.N0 b → N b
  n0lt : ∀ b, B.N0 b → b < B.w0.heap.size
  nfresh : ∀ b, N b → B.N0 b ∨ B.w0.heap.size ≤ b
  fresh : ∀ i v T sz cs b sh, i < 1000000 → H i = .cells v T sz cs → m i = some (b, sh) → B.w0.heap.size ≤ b
  orig : ∀ i v T sz cs b sh, H i = .cells v T sz cs → m i = some (b, sh) → (∃ sh0, B.m0 i = some (b, sh0)) ∨ B.w0.heap.size ≤ b
  inj : ∀ i j b s1 s2, m i = some (b, s1) → m j = some (b, s2) → (∃ v T sz cs, H i = .cells v T sz cs) → (∃ v T sz cs, H j = .cells v T sz cs) → i = j
  own : ∀ i ver T sz cs b sh, H i = .cells ver T sz cs → m i = some (b, sh) → N b ∧ (B.S b ∨ B.w0.heap.size ≤ b) ∧
    ∃ c : Array Value, w.heap[b]? = some (.cells c T (0, 0)) ∧ sh + cs.length ≤ c.size ∧ ∀ (j : Nat) (x : AV) (v : Value), cs[j]? = some x → c[sh + j]? = some v → Rel m H N w x v
  virt : ∀ i ver T sz cs, H i = .cells ver T sz cs → m i = none → cs = []
end Go.Abs

/- The abstract machine, part B: how the state goes on when memory is made or written. -/
set_option linter.unusedVariables false
set_option linter.unusedSimpArgs false
namespace Go.Abs

section
variable {B : Base} {m : Nat → Option (Nat × Nat)} {H : Heap} {N : Nat → Prop} {w : World}

theorem getElem?_push_old {α : Type} (a : Array α) (x : α) (k : Nat) (h : k < a.size) : (a.push x)[k]? = a[k]? := by
  simp [Array.getElem?_push, Nat.ne_of_lt h]

theorem Keeps.alloc (N : Nat → Prop) (w : World) (o : Obj) : Keeps N w (w.alloc o) :=
  ⟨by simp, fun b hb _ => heap_alloc_old w o hb, rfl, rfl, rfl⟩

theorem Keeps.drew (N : Nat → Prop) (w : World) : Keeps N w w.drew := ⟨Nat.le_refl _, fun _ _ _ => rfl, rfl, rfl, rfl⟩

/-- Nothing but the count of draws has changed. -/
theorem St.same {w' : World} (h : St B m H N w) (hh : w'.heap = w.heap) (ho : w'.os = w.os) (ht : w'.tape = w.tape) (hp : w'.output = w.output) : St B m H N w' ∧ Ch m H N w m H N w' := by
  have hk : ∀ N, Keeps N w w' := fun N => ⟨by rw [hh]; exact Nat.le_refl _, fun b _ _ => by rw [hh], ho, ht, hp⟩
  have hc : Ch m H N w m H N w' := ⟨fun a v hf => hf.keeps (hk N) (fun _ _ h => h), fun _ => Nat.le_refl _,
    fun id ver T sz cs hl => .inr ⟨⟨T, cs, hl⟩, rfl, fun b sh _ c T1 z hb => ⟨c, T1, z, by rw [hh]; exact hb, rfl⟩⟩⟩
  refine ⟨⟨h.keep.trans (hk B.S) (fun _ _ h => h), fun b hb => by rw [hh]; exact h.nlt b hb, h.n0, h.n0lt, h.nfresh, h.fresh, h.orig, h.inj, fun i ver T sz cs b sh h1 h2 => ?_, h.virt⟩, hc⟩
  obtain ⟨a1, a2, c, a3, a4, a5⟩ := h.own i ver T sz cs b sh h1 h2
  exact ⟨a1, a2, c, by rw [hh]; exact a3, a4, fun j x v hx hv => (a5 j x v hx hv).ch hc⟩

theorem St.drew (h : St B m H N w) : St B m H N w.drew ∧ Ch m H N w m H N w.drew := h.same rfl rfl rfl rfl

/-- A new block. -/
theorem St.alloc (h : St B m H N w) (d : Nat) (T : TypeId) (sz : Nat) (cs : List AV) (c : Array Value) (hl : cs.length ≤ c.size)
    (hr : ∀ (j : Nat) (x : AV) (v : Value), cs[j]? = some x → c[j]? = some v → Rel m H N w x v) :
    St B (upd m d (some (w.heap.size, 0))) (upd H d (.cells ((H d).ver + 1) T sz cs)) (fun b => N b ∨ b = w.heap.size) (w.alloc (.cells c T)) ∧
    Ch m H N w (upd m d (some (w.heap.size, 0))) (upd H d (.cells ((H d).ver + 1) T sz cs)) (fun b => N b ∨ b = w.heap.size) (w.alloc (.cells c T)) := by
  have hk : ∀ N, Keeps N w (w.alloc (.cells c T)) := fun N => Keeps.alloc N w _
  have hc : Ch m H N w (upd m d (some (w.heap.size, 0))) (upd H d (.cells ((H d).ver + 1) T sz cs)) (fun b => N b ∨ b = w.heap.size) (w.alloc (.cells c T)) := by
    refine ⟨fun a v hf => hf.keeps (hk N) (fun b hb hn => hn.elim id fun e => absurd hb (by omega)), fun id => ?_, fun id ver T' sz' cs' hl => ?_⟩
    · by_cases e : id = d
      · subst e; simp [Blk.ver]
      · rw [upd_ne H _ e]; exact Nat.le_refl _
    · by_cases e : id = d
      · subst e; rw [upd_same] at hl; injection hl with h1 h2 h3 h4; exact .inl (by omega)
      · rw [upd_ne H _ e] at hl
        refine .inr ⟨⟨T', cs', hl⟩, upd_ne m _ e, fun b sh hb c1 T1 z h1 => ⟨c1, T1, z, ?_, rfl⟩⟩
        rw [heap_alloc_old w _ (Array.getElem?_eq_some_iff.1 h1).1]; exact h1
  have hlt : ∀ i b sh, (∃ v T sz cs, H i = .cells v T sz cs) → m i = some (b, sh) → b < w.heap.size := fun i b sh ⟨v, T', sz', cs', hi⟩ hm => h.nlt b (h.own i v T' sz' cs' b sh hi hm).1
  refine ⟨⟨h.keep.trans (hk B.S) (fun _ _ h => h), fun b hb => ?_, fun b hb => .inl (h.n0 b hb), h.n0lt, fun b hb => hb.elim (h.nfresh b) (fun e => .inr (e ▸ h.keep.size)), fun i v T' sz' cs' b sh h1 h2 h3 => ?_, fun i v T' sz' cs' b sh h2 h3 => ?_, fun i j b s1 s2 hi hj li lj => ?_, fun i ver T' sz' cs' b sh hi hm => ?_, fun i ver T' sz' cs' hi hm => ?_⟩, hc⟩
  · rw [World.size_alloc]
    rcases hb with hb | hb
    · have := h.nlt b hb; omega
    · omega
  · by_cases e : i = d
    · subst e; rw [upd_same] at h3; injection h3 with h3; injection h3 with h3 _; exact h3 ▸ h.keep.size
    · rw [upd_ne H _ e] at h2; rw [upd_ne m _ e] at h3; exact h.fresh i v T' sz' cs' b sh h1 h2 h3
  · by_cases e : i = d
    · subst e; rw [upd_same] at h3; injection h3 with h3; injection h3 with h3 _; exact .inr (h3 ▸ h.keep.size)
    · rw [upd_ne H _ e] at h2; rw [upd_ne m _ e] at h3; exact h.orig i v T' sz' cs' b sh h2 h3
  · by_cases ei : i = d
    · by_cases ej : j = d
      · rw [ei, ej]
      · subst ei
        rw [upd_same] at hi; rw [upd_ne m _ ej] at hj; rw [upd_ne H _ ej] at lj
        have := hlt j b s2 lj hj
        injection hi with hi; injection hi with hi; omega
    · by_cases ej : j = d
      · subst ej
        rw [upd_same] at hj; rw [upd_ne m _ ei] at hi; rw [upd_ne H _ ei] at li
        have := hlt i b s1 li hi
        injection hj with hj; injection hj with hj; omega
      · rw [upd_ne m _ ei] at hi; rw [upd_ne m _ ej] at hj; rw [upd_ne H _ ei] at li; rw [upd_ne H _ ej] at lj
        exact h.inj i j b s1 s2 hi hj li lj
  · by_cases ei : i = d
    · subst ei
      rw [upd_same] at hi hm
      injection hi with h1 h2 h3 h4; injection hm with hm; injection hm with hm hm2; subst h1 h2 h3 h4 hm hm2
      refine ⟨.inr rfl, .inr h.keep.size, c, heap_alloc_new w _, by simpa using hl, fun j x v hx hv => (hr j x v hx (by simpa using hv)).ch hc⟩
    · rw [upd_ne H _ ei] at hi; rw [upd_ne m _ ei] at hm
      obtain ⟨a1, a2, c', a3, a4, a5⟩ := h.own i ver T' sz' cs' b sh hi hm
      refine ⟨.inl a1, a2, c', ?_, a4, fun j x v hx hv => (a5 j x v hx hv).ch hc⟩
      rw [heap_alloc_old w _ (h.nlt b a1)]; exact a3
  · by_cases ei : i = d
    · subst ei; rw [upd_same] at hm; cases hm
    · rw [upd_ne H _ ei] at hi; rw [upd_ne m _ ei] at hm
      exact h.virt i ver T' sz' cs' hi hm

/-- A block that is not there: an empty slice without memory. -/
theorem St.virtual (h : St B m H N w) (d : Nat) (T : TypeId) (sz : Nat) :
    St B (upd m d none) (upd H d (.cells ((H d).ver + 1) T sz [])) N w ∧ Ch m H N w (upd m d none) (upd H d (.cells ((H d).ver + 1) T sz [])) N w := by
  have hc : Ch m H N w (upd m d none) (upd H d (.cells ((H d).ver + 1) T sz [])) N w := by
    refine ⟨fun a v hf => hf, fun id => ?_, fun id ver T' sz' cs' hl => ?_⟩
    · by_cases e : id = d
      · subst e; simp [Blk.ver]
      · rw [upd_ne H _ e]; exact Nat.le_refl _
    · by_cases e : id = d
      · subst e; rw [upd_same] at hl; injection hl with h1 h2 h3 h4; exact .inl (by omega)
      · rw [upd_ne H _ e] at hl
        exact .inr ⟨⟨T', cs', hl⟩, upd_ne m _ e, fun b sh hb c1 T1 z h1 => ⟨c1, T1, z, h1, rfl⟩⟩
  refine ⟨⟨h.keep, h.nlt, h.n0, h.n0lt, h.nfresh, fun i v T' sz' cs' b sh h1 h2 h3 => ?_, fun i v T' sz' cs' b sh h2 h3 => ?_, fun i j b s1 s2 hi hj li lj => ?_, fun i ver T' sz' cs' b sh hi hm => ?_, fun i ver T' sz' cs' hi hm => ?_⟩, hc⟩
  · by_cases e : i = d
    · subst e; rw [upd_same] at h3; cases h3
    · rw [upd_ne H _ e] at h2; rw [upd_ne m _ e] at h3; exact h.fresh i v T' sz' cs' b sh h1 h2 h3
  · by_cases e : i = d
    · subst e; rw [upd_same] at h3; cases h3
    · rw [upd_ne H _ e] at h2; rw [upd_ne m _ e] at h3; exact h.orig i v T' sz' cs' b sh h2 h3
  · by_cases ei : i = d
    · subst ei; rw [upd_same] at hi; cases hi
    · by_cases ej : j = d
      · subst ej; rw [upd_same] at hj; cases hj
      · rw [upd_ne m _ ei] at hi; rw [upd_ne m _ ej] at hj; rw [upd_ne H _ ei] at li; rw [upd_ne H _ ej] at lj
        exact h.inj i j b s1 s2 hi hj li lj
  · by_cases ei : i = d
    · subst ei; rw [upd_same] at hm; cases hm
    · rw [upd_ne H _ ei] at hi; rw [upd_ne m _ ei] at hm
      obtain ⟨a1, a2, c', a3, a4, a5⟩ := h.own i ver T' sz' cs' b sh hi hm
      exact ⟨a1, a2, c', a3, a4, fun j x v hx hv => (a5 j x v hx hv).ch hc⟩
  · by_cases ei : i = d
    · subst ei; rw [upd_same] at hi; injection hi with h1 h2 h3 h4; exact h4.symm
    · rw [upd_ne H _ ei] at hi; rw [upd_ne m _ ei] at hm
      exact h.virt i ver T' sz' cs' hi hm

/-- A block is no longer ours. -/
theorem St.drop (h : St B m H N w) (d : Nat) : St B m (upd H d (.gone ((H d).ver + 1))) N w ∧ Ch m H N w m (upd H d (.gone ((H d).ver + 1))) N w := by
  have hc : Ch m H N w m (upd H d (.gone ((H d).ver + 1))) N w := by
    refine ⟨fun a v hf => hf, fun id => ?_, fun id ver T' sz' cs' hl => ?_⟩
    · by_cases e : id = d
      · subst e; simp [Blk.ver]
      · rw [upd_ne H _ e]; exact Nat.le_refl _
    · by_cases e : id = d
      · subst e; rw [upd_same] at hl; cases hl
      · rw [upd_ne H _ e] at hl
        exact .inr ⟨⟨T', cs', hl⟩, rfl, fun b sh hb c1 T1 z h1 => ⟨c1, T1, z, h1, rfl⟩⟩
  have old : ∀ i v T sz cs, (upd H d (.gone ((H d).ver + 1))) i = .cells v T sz cs → H i = .cells v T sz cs := fun i v T sz cs hi => by
    by_cases e : i = d
    · subst e; rw [upd_same] at hi; cases hi
    · rwa [upd_ne H _ e] at hi
  exact ⟨⟨h.keep, h.nlt, h.n0, h.n0lt, h.nfresh, fun i v T' sz' cs' b sh h1 h2 h3 => h.fresh i v T' sz' cs' b sh h1 (old _ _ _ _ _ h2) h3, fun i v T' sz' cs' b sh h2 h3 => h.orig i v T' sz' cs' b sh (old _ _ _ _ _ h2) h3, fun i j b s1 s2 hi hj ⟨v1, T1, z1, c1, li⟩ ⟨v2, T2, z2, c2, lj⟩ => h.inj i j b s1 s2 hi hj ⟨_, _, _, _, old _ _ _ _ _ li⟩ ⟨_, _, _, _, old _ _ _ _ _ lj⟩,
    fun i ver T' sz' cs' b sh hi hm => by
      obtain ⟨a1, a2, c', a3, a4, a5⟩ := h.own i ver T' sz' cs' b sh (old _ _ _ _ _ hi) hm
      exact ⟨a1, a2, c', a3, a4, fun j x v hx hv => (a5 j x v hx hv).ch hc⟩, fun i ver T' sz' cs' hi hm => h.virt i ver T' sz' cs' (old _ _ _ _ _ hi) hm⟩, hc⟩

/-- A block of ours is written: its cells, and perhaps its version and its first cell. -/
theorem St.row (h : St B m H N w) {id ver : Nat} {T : TypeId} {sz : Nat} {cs : List AV} {b sh : Nat} (hH : H id = .cells ver T sz cs) (hm : m id = some (b, sh))
    {c0 : Array Value} (hb : w.heap[b]? = some (.cells c0 T (0, 0))) (ver' sh' : Nat) (hv : (ver' = ver ∧ sh' = sh) ∨ ver < ver') (cs' : List AV) (c' : Array Value) (hs : c'.size = c0.size) (hl : sh' + cs'.length ≤ c'.size)
    (hr : ∀ (j : Nat) (x : AV) (v : Value), cs'[j]? = some x → c'[sh' + j]? = some v → Rel m H N w x v) :
    St B (upd m id (some (b, sh'))) (upd H id (.cells ver' T sz cs')) N (w.setRow b c') ∧ Ch m H N w (upd m id (some (b, sh'))) (upd H id (.cells ver' T sz cs')) N (w.setRow b c') := by
  obtain ⟨n1, n2, _⟩ := h.own id ver T sz cs b sh hH hm
  have hk : Keeps N w (w.setRow b c') := ⟨by simp, fun k hk hN => setRow_other w b k c' (fun e => hN (e ▸ n1)), rfl, rfl, rfl⟩
  have hkS : Keeps B.S B.w0 (w.setRow b c') := by
    refine ⟨by simpa using h.keep.size, fun k hk hS => ?_, h.keep.os, h.keep.tape, h.keep.output⟩
    have hne : k ≠ b := by
      rintro rfl
      rcases n2 with n2 | n2
      · exact hS n2
      · omega
    rw [setRow_other w b k c' hne]; exact h.keep.block k hk hS
  have hnew := setRow_heap w b c0 c' T (0, 0) hb
  have hc : Ch m H N w (upd m id (some (b, sh'))) (upd H id (.cells ver' T sz cs')) N (w.setRow b c') := by
    refine ⟨fun a v hf => hf.keeps hk (fun _ _ h => h), fun i => ?_, fun i v1 T1 s1 cs1 hl1 => ?_⟩
    · by_cases e : i = id
      · subst e; rw [upd_same, hH]; simp only [Blk.ver]; omega
      · rw [upd_ne H _ e]; exact Nat.le_refl _
    · have size : ∀ b' s', m i = some (b', s') → ∀ c T1 z, w.heap[b']? = some (.cells c T1 z) → ∃ c1 T1' z', (w.setRow b c').heap[b']? = some (.cells c1 T1' z') ∧ c1.size = c.size := fun b' s' _ c T1 z hb' => by
        by_cases e : b' = b
        · subst e; rw [hb] at hb'; injection hb' with hb'; injection hb' with e1 e2 e3; exact ⟨c', T, (0, 0), hnew, by rw [hs, e1]⟩
        · exact ⟨c, T1, z, by rw [setRow_other w b b' c' e]; exact hb', rfl⟩
      by_cases e : i = id
      · subst e
        rw [upd_same] at hl1; injection hl1 with h1 h2 h3 h4
        rcases hv with ⟨hv1, hv2⟩ | hv
        · exact .inr ⟨⟨T, cs, by rw [hH, ← h1, hv1, ← h3]⟩, by rw [upd_same, hm, hv2], size⟩
        · exact .inl (by rw [hH]; simp only [Blk.ver]; omega)
      · rw [upd_ne H _ e] at hl1
        exact .inr ⟨⟨T1, cs1, hl1⟩, upd_ne m _ e, size⟩
  have live : ∀ i, (∃ v T2 sz2 cs2, (upd H id (.cells ver' T sz cs')) i = .cells v T2 sz2 cs2) → ∃ v T sz cs, H i = .cells v T sz cs := fun i ⟨v, T1, s1, cs1, hi⟩ => by
    by_cases e : i = id
    · subst e; exact ⟨_, _, _, _, hH⟩
    · rw [upd_ne H _ e] at hi; exact ⟨_, _, _, _, hi⟩
  have back : ∀ i k s, (upd m id (some (b, sh'))) i = some (k, s) → ∃ s', m i = some (k, s') := fun i k s hi => by
    by_cases e : i = id
    · subst e; rw [upd_same] at hi; injection hi with hi; injection hi with e1 e2; subst e1; exact ⟨sh, hm⟩
    · rw [upd_ne m _ e] at hi; exact ⟨s, hi⟩
  refine ⟨⟨hkS, fun k hk => by simpa using h.nlt k hk, h.n0, h.n0lt, h.nfresh, fun i v1 T1 s1 cs1 k s h1 h2 h3 => ?_, fun i v1 T1 s1 cs1 k s h2 h3 => ?_, fun i j k s1 s2 hi hj li lj => ?_, fun i v1 T1 s1 cs1 k s hi hmi => ?_, fun i v1 T1 s1 cs1 hi hmi => ?_⟩, hc⟩
  · obtain ⟨s', h3'⟩ := back i k s h3
    obtain ⟨v2, T2, s2, cs2, h2'⟩ := live i ⟨v1, T1, s1, cs1, h2⟩
    exact h.fresh i v2 T2 s2 cs2 k s' h1 h2' h3'
  · obtain ⟨s', h3'⟩ := back i k s h3
    obtain ⟨v2, T2, s2, cs2, h2'⟩ := live i ⟨v1, T1, s1, cs1, h2⟩
    exact h.orig i v2 T2 s2 cs2 k s' h2' h3'
  · obtain ⟨s1', hi'⟩ := back i k s1 hi
    obtain ⟨s2', hj'⟩ := back j k s2 hj
    exact h.inj i j k s1' s2' hi' hj' (live i li) (live j lj)
  · by_cases e : i = id
    · subst e
      rw [upd_same] at hi hmi; injection hi with h1 h2 h3 h4
      injection hmi with hmi; injection hmi with e1 e2
      subst h1 h2 h3 h4 e1 e2
      exact ⟨n1, n2, c', hnew, hl, fun j x v hx hv => (hr j x v hx hv).ch hc⟩
    · rw [upd_ne H _ e] at hi; rw [upd_ne m _ e] at hmi
      obtain ⟨a1, a2, c1, a3, a4, a5⟩ := h.own i v1 T1 s1 cs1 k s hi hmi
      have hkb : k ≠ b := by
        rintro rfl
        exact e (h.inj i id k s sh hmi hm ⟨_, _, _, _, hi⟩ ⟨_, _, _, _, hH⟩)
      exact ⟨a1, a2, c1, by rw [setRow_other w b k c' hkb]; exact a3, a4, fun j x v hx hv => (a5 j x v hx hv).ch hc⟩
  · by_cases e : i = id
    · subst e; rw [upd_same] at hmi; cases hmi
    · rw [upd_ne H _ e] at hi; rw [upd_ne m _ e] at hmi; exact h.virt i v1 T1 s1 cs1 hi hmi
end
end Go.Abs

/- The abstract machine, part C: what an operation asks and gives. -/
set_option linter.unusedVariables false
set_option linter.unusedSimpArgs false
namespace Go.Abs

/-! ### 1. Reading a relation backwards -/
section
variable {m : Nat → Option (Nat × Nat)} {H : Heap} {N : Nat → Prop} {w : World} {v : Value}
theorem rel_int {k : IntKind} {n : Int} (h : Rel m H N w (.int k n) v) : v = .int k n := by cases h with | fz h => cases h; rfl
theorem rel_bool {b : Bool} (h : Rel m H N w (.bool b) v) : v = .bool b := by cases h with | fz h => cases h; rfl
theorem rel_str {s : ByteArray} (h : Rel m H N w (.str s) v) : v = .string s := by cases h with | fz h => cases h; rfl
theorem rel_nil (h : Rel m H N w .nil v) : v = .slice none 0 0 := by cases h with | fz h => cases h; rfl
theorem rel_nilp (h : Rel m H N w .nilp v) : v = .pointer none := by cases h with | fz h => cases h; rfl
theorem rel_sl {sz : Nat} {es : List AV} (h : Rel m H N w (.sl sz es) v) : FRel N w (.sl sz es) v := by cases h with | fz h => exact h
theorem rel_adr {x : AV} (h : Rel m H N w (.adr x) v) : FRel N w (.adr x) v := by cases h with | fz h => exact h
theorem rel_agg {cs : List AV} (h : Rel m H N w (.agg cs) v) : ∃ vs : Array Value, v = .agg vs ∧ vs.size = cs.length ∧ ∀ (i : Nat) (x : AV) (u : Value), cs[i]? = some x → vs[i]? = some u → Rel m H N w x u := by
  cases h with
  | fz h => cases h with | agg cs vs hn hr => exact ⟨vs, rfl, hn, fun i x u h1 h2 => .fz (hr i x u h1 h2)⟩
  | agg cs vs hn hr => exact ⟨vs, rfl, hn, hr⟩
theorem rel_tup {cs : List AV} (h : Rel m H N w (.tup cs) v) : ∃ vs : Array Value, v = .tuple vs ∧ vs.size = cs.length ∧ ∀ (i : Nat) (x : AV) (u : Value), cs[i]? = some x → vs[i]? = some u → Rel m H N w x u := by
  cases h with
  | fz h => cases h
  | tup cs vs hn hr => exact ⟨vs, rfl, hn, hr⟩
theorem rel_fn {f : FuncId} {cs : List AV} (h : Rel m H N w (.fn f cs) v) : ∃ vs : Array Value, v = .func (.func f) #[] vs ∧ vs.size = cs.length ∧ ∀ (i : Nat) (x : AV) (u : Value), cs[i]? = some x → vs[i]? = some u → Rel m H N w x u := by
  cases h with
  | fz h => cases h
  | fn f cs vs hn hr => exact ⟨vs, rfl, hn, hr⟩
theorem rel_ref {id ver off len : Nat} (h : Rel m H N w (.ref id ver off len) v) {T sz : Nat} {cs : List AV} (hl : H id = .cells ver T sz cs) : RefOk w (m id) off len sz v := by
  cases h with
  | fz h => cases h
  | ref _ _ _ _ _ _ _ h => exact h T sz cs hl
theorem rel_ptr {id ver off : Nat} (h : Rel m H N w (.ptr id ver off) v) {T sz : Nat} {cs : List AV} (hl : H id = .cells ver T sz cs) {b sh : Nat} (hm : m id = some (b, sh)) : v = .pointer (some ⟨b, sh + off, none⟩) := by
  cases h with
  | fz h => cases h
  | ptr _ _ _ _ _ _ h => exact h T sz cs hl b sh hm

/-- One cell. -/
def AV.scalar : AV → Bool
  | .agg _ | .tup _ | .dead => false
  | _ => true
def AV.boxable : AV → Bool
  | .tup _ | .dead => false
  | _ => true

theorem FRel.one {a : AV} (h : FRel N w a v) (ha : a.scalar = true) : v.oneCell' = true := by
  cases h <;> first | rfl | cases ha
theorem Rel.one {a : AV} (h : Rel m H N w a v) (ha : a.scalar = true) : v.oneCell' = true := by
  cases h with
  | fz h => exact h.one ha
  | agg => cases ha
  | tup => cases ha
  | fn => rfl
  | ref => assumption
  | ptr => assumption
  | dead => cases ha

theorem cells_one {v : Value} (h : v.oneCell' = true) : v.cells = #[v] := by cases v <;> first | rfl | cases h
/-- A value's cells are as its abstract cells. -/
theorem Rel.flat {a : AV} (h : Rel m H N w a v) (ha : a.boxable = true) : v.cells.size = (flat a).length ∧ ∀ (i : Nat) (x : AV) (u : Value), (flat a)[i]? = some x → v.cells[i]? = some u → Rel m H N w x u := by
  by_cases hs : a.scalar = true
  · rw [cells_one (h.one hs)]
    have hf : Abs.flat a = [a] := by cases a <;> first | rfl | cases hs
    rw [hf]
    refine ⟨rfl, fun i x u h1 h2 => ?_⟩
    cases i with
    | zero => simp at h1 h2; subst h1; subst h2; exact h
    | succ i => simp at h1
  · cases a <;> first | exact absurd rfl hs | (cases ha; done) | skip
    obtain ⟨vs, rfl, hn, hr⟩ := rel_agg h
    exact ⟨hn, hr⟩
end

/-- A constant as an abstract value. -/
def ofV0 : Value → AV
  | .int k n => .int k n
  | .bool b => .bool b
  | .string s => .str s
  | .slice none 0 0 => .nil
  | .pointer none => .nilp
  | _ => .dead
def ofV : Value → AV
  | .agg vs => .agg (vs.toList.map ofV0)
  | v => ofV0 v
theorem rel_ofV0 (m : Nat → Option (Nat × Nat)) (H : Heap) (N : Nat → Prop) (w : World) (v : Value) : Rel m H N w (ofV0 v) v := by
  unfold ofV0
  split <;> first | exact .fz (.int _ _) | exact .fz (.bool _) | exact .fz (.str _) | exact .fz .nil | exact .fz .nilp | exact .dead _
theorem rel_ofV (m : Nat → Option (Nat × Nat)) (H : Heap) (N : Nat → Prop) (w : World) (v : Value) : Rel m H N w (ofV v) v := by
  unfold ofV
  split
  · rename_i vs
    refine .agg _ vs (by simp) fun i x u h1 h2 => ?_
    simp only [List.getElem?_map, Option.map_eq_some_iff] at h1
    obtain ⟨y, h3, rfl⟩ := h1
    have : vs[i]? = some y := by simpa using h3
    rw [this] at h2; cases h2
    exact rel_ofV0 m H N w _
  · exact rel_ofV0 m H N w _

def ev (env : Env) : Operand → AV
  | .tmp t => env t
  | .const v => ofV v
  | .global _ => .dead
  | .func f => .fn f []

/-- The frame is as the abstract one. -/
structure ARel (m : Nat → Option (Nat × Nat)) (H : Heap) (N : Nat → Prop) (w : World) (env : Env) (a : Act) : Prop where
  defers : a.defers = []
  tmp : ∀ t, Rel m H N w (env t) (a.tmps.getD t undef)

theorem ARel.ev {m : Nat → Option (Nat × Nat)} {H : Heap} {N : Nat → Prop} {w : World} {env : Env} {a : Act} (h : ARel m H N w env a) (x : Operand) : Rel m H N w (ev env x) (a.eval x) := by
  cases x with
  | tmp t => exact h.tmp t
  | const v => exact rel_ofV ..
  | global g => exact .dead _
  | func f => exact .fn f [] #[] rfl (fun i x v h1 _ => by simp at h1)

theorem ARel.ch {m m' : Nat → Option (Nat × Nat)} {H H' : Heap} {N N' : Nat → Prop} {w w' : World} {env : Env} {a : Act} (h : ARel m H N w env a) (hc : Ch m H N w m' H' N' w') : ARel m' H' N' w' env a :=
  ⟨h.defers, fun t => (h.tmp t).ch hc⟩
def put (env : Env) (d : Option Tmp) (x : AV) : Env :=
  match d with
  | some d => upd env d x
  | none => env
theorem ARel.put {m : Nat → Option (Nat × Nat)} {H : Heap} {N : Nat → Prop} {w : World} {env : Env} {a : Act} (h : ARel m H N w env a) (d : Option Tmp) (hd : ∀ t, d = some t → t < a.tmps.size) {x : AV} {v : Value} (hr : Rel m H N w x v) :
    ARel m H N w (put env d x) (a.put d v) := by
  cases d with
  | none => exact h
  | some d =>
    refine ⟨h.defers, fun t => ?_⟩
    have hlt := hd d rfl
    simp only [Act.put, Abs.put]
    by_cases e : t = d
    · subst e; rw [upd_same]; simp [hlt]; exact hr
    · rw [upd_ne env _ e]
      have := h.tmp t
      simpa [Array.getElem?_setIfInBounds, Ne.symm e] using this

/-! ### 2. The tables -/
def tsz (P : Program) (t : TypeId) : Option Nat := (P.info? t).map (·.size)
def tby (P : Program) (t : TypeId) : Option Nat := (P.info? t).map (·.bytes)
def tagg (P : Program) (t : TypeId) : Option Bool := (P.underlying t).map fun | .struct _ | .array _ _ => true | _ => false
def tzero (P : Program) (t : TypeId) : Option (List AV) := ((P.info? t).bind (·.zero)).map fun z => z.cells.toList.map ofV0
def telem (P : Program) (t : TypeId) : Option TypeId := match P.underlying t with | some (.slice e) => some e | _ => none
def tfld (P : Program) (t : TypeId) (i : Nat) : Option (Nat × TypeId) := match P.underlying t with | some (.struct fs) => (fs[i]?).map fun f => (f.offset, f.type) | _ => none
def tstruct (P : Program) (t : TypeId) : Bool := match P.underlying t with | some (.struct fs) => fs.all fun f => (P.info? f.type).isSome | _ => false

section
variable {P : Program} {w : World} {t : TypeId}
theorem run_sizeOf_tsz {n : Nat} (h : tsz P t = some n) : (sizeOf t).run P w = .ok n w := by
  unfold tsz at h
  cases hi : P.info? t with
  | none => simp [hi] at h
  | some i => simp [hi] at h; simp [sizeOf, typeInfo, hi, h]
theorem run_isAgg_tagg {b : Bool} (h : tagg P t = some b) : (isAgg t).run P w = .ok b w := by
  unfold tagg at h
  cases hu : P.underlying t with
  | none => simp [hu] at h
  | some d =>
    rw [hu] at h
    simp only [Option.map_some, Option.some.injEq] at h
    subst h
    simp only [isAgg, Sem.run_bind, run_underlying hu, Result.andThen_ok]
    cases d <;> rfl
theorem telem_eq {e : TypeId} (h : telem P t = some e) : P.underlying t = some (.slice e) := by
  unfold telem at h
  split at h
  · rename_i e' hu; injection h with h; rw [hu, h]
  · cases h
theorem tfld_eq {i off : Nat} {ft : TypeId} (h : tfld P t i = some (off, ft)) : ∃ fs f, P.underlying t = some (.struct fs) ∧ fs[i]? = some f ∧ f.offset = off ∧ f.type = ft := by
  unfold tfld at h
  split at h
  · rename_i fs hu
    cases hf : fs[i]? with
    | none => simp [hf] at h
    | some f => simp [hf] at h; exact ⟨fs, f, hu, hf, h.1, h.2⟩
  · cases h
theorem tzero_eq {zs : List AV} (h : tzero P t = some zs) : ∃ i z, P.info? t = some i ∧ i.zero = some z ∧ zs = z.cells.toList.map ofV0 := by
  unfold tzero at h
  cases hi : P.info? t with
  | none => simp [hi] at h
  | some i =>
    cases hz : i.zero with
    | none => simp [hi, hz] at h
    | some z => simp [hi, hz] at h; exact ⟨i, z, rfl, hz, h.symm⟩
end

/-! ### 3. What an operation comes to -/
/-- Whatever the operation does, it goes on with an abstract value and heap of which 'K' holds. -/
def Out (P : Program) (o : Oper) (a : Act) (B : Base) (m : Nat → Option (Nat × Nat)) (H : Heap) (N : Nat → Prop) (w : World) (K : AV → Heap → Prop) : Prop :=
  ∀ (next : Act → World → Prop) (Q : Exit → Act → World → Prop),
    (∀ v w' m' H' N' x, K x H' → St B m' H' N' w' → Ch m H N w m' H' N' w' → Rel m' H' N' w' x v → next (a.put o.dst v) w') → o.wp P a w next Q

section
variable {P : Program} {o : Oper} {a : Act} {B : Base} {m : Nat → Option (Nat × Nat)} {H : Heap} {N : Nat → Prop} {w : World} {K : AV → Heap → Prop}
theorem Out.value {v : Value} {w' : World} {m' : Nat → Option (Nat × Nat)} {H' : Heap} {N' : Nat → Prop} {x : AV} (hr : (execOp a.eval o).run P w = .ok (.value v) w')
    (hS : St B m' H' N' w' ∧ Ch m H N w m' H' N' w') (hx : Rel m' H' N' w' x v) (hK : K x H') : Out P o a B m H N w K := by
  intro next Q h
  unfold Oper.wp
  rw [hr]
  exact h v w' m' H' N' x hK hS.1 hS.2 hx
theorem Out.skip {w' : World} {m' : Nat → Option (Nat × Nat)} {H' : Heap} {N' : Nat → Prop} (hr : (execOp a.eval o).run P w = .ok .skip w')
    (hS : St B m' H' N' w' ∧ Ch m H N w m' H' N' w') (hK : K .dead H') : Out P o a B m H N w K := by
  intro next Q h
  unfold Oper.wp
  rw [hr]
  exact h undef w' m' H' N' .dead hK hS.1 hS.2 (.dead _)
/-- A value alone: nothing changes. -/
theorem Out.pure {v : Value} {x : AV} (hS : St B m H N w) (hr : (execOp a.eval o).run P w = .ok (.value v) w) (hx : Rel m H N w x v) (hK : K x H) : Out P o a B m H N w K :=
  .value hr ⟨hS, Ch.refl m H N w⟩ hx hK
theorem Out.mono {K' : AV → Heap → Prop} (h : Out P o a B m H N w K) (hK : ∀ x H', K x H' → K' x H') : Out P o a B m H N w K' :=
  fun next Q hn => h next Q fun v w' m' H' N' x hk => hn v w' m' H' N' x (hK x H' hk)
end
end Go.Abs

/- The abstract machine, part D: the operations one by one. -/
set_option linter.unusedVariables false
set_option linter.unusedSimpArgs false
namespace Go.Abs

/-! ### 1. Definitions -/
def apick (c x y : AV) (K : AV → Prop) : Prop := match c with | .bool b => K (if b then x else y) | _ => False
def aalloc (P : Program) (t : TypeId) (d : Nat) (H : Heap) (K : AV → Heap → Prop) : Prop :=
  match tzero P t with
  | some zs => K (.ptr d ((H d).ver + 1) 0) (upd H d (.cells ((H d).ver + 1) t 1 zs))
  | none => False
def abox (t : TypeId) (x : AV) (d : Nat) (H : Heap) (K : AV → Heap → Prop) : Prop :=
  x.boxable = true ∧ K (.ptr d ((H d).ver + 1) 0) (upd H d (.cells ((H d).ver + 1) t 1 (flat x)))
/-- Cells written. -/
def wr (cs : List AV) (off : Nat) (xs : List AV) : List AV :=
  match xs with
  | [x] => cs.set off x
  | _ => cs.take off ++ xs ++ cs.drop (off + xs.length)
def aload (P : Program) (t : TypeId) (x : AV) (H : Heap) (K : AV → Prop) : Prop :=
  match x with
  | .adr y => match tagg P t with
    | some true => (match y with | .agg cs => tsz P t = some cs.length ∧ K (.agg cs) | _ => False)
    | some false => y.scalar = true ∧ K y
    | none => False
  | .ptr id ver off => match H id with
    | .cells v T sz cs => v = ver ∧ (match tagg P t with
      | some true => (match tsz P t with | some n => n ≠ 0 ∧ off + n ≤ cs.length ∧ K (.agg ((cs.drop off).take n)) | none => False)
      | some false => (match cs[off]? with | some y => K y | none => False)
      | none => False)
    | .gone _ => False
  | _ => False
def astore (P : Program) (t : TypeId) (x y : AV) (H : Heap) (K : Heap → Prop) : Prop :=
  match x with
  | .ptr id ver off => match H id with
    | .cells v T sz cs => v = ver ∧ 0 < (flat y).length ∧ y.boxable = true ∧ (flat y).all AV.scalar = true ∧ tsz P t = some (flat y).length ∧ off + (flat y).length ≤ cs.length ∧ K (upd H id (.cells ver T sz (wr cs off (flat y))))
    | .gone _ => False
  | _ => False
def anil (x : AV) (H : Heap) (K : AV → Prop) : Prop :=
  match x with
  | .ptr id ver off => (match H id with | .cells v T sz cs => v = ver ∧ cs ≠ [] ∧ K (.ptr id ver off) | .gone _ => False)
  | .adr y => K (.adr y)
  | _ => False
def aidxAddr (P : Program) (t : TypeId) (x i : AV) (H : Heap) (K : AV → Prop) : Prop :=
  match telem P t with
  | some e => match x, i with
    | .sl sz es, .int k n => tsz P e = some sz ∧ 0 ≤ n ∧ (match es[n.toNat]? with | some y => K (.adr y) | none => False)
    | .ref id ver off len, .int k n => (match H id with
      | .cells v T sz cs => v = ver ∧ tsz P e = some sz ∧ 0 ≤ n ∧ n < len ∧ K (.ptr id ver (off + n.toNat * sz))
      | .gone _ => False)
    | _, _ => False
  | none => False
def afldAddr (P : Program) (t : TypeId) (x : AV) (i : Nat) (H : Heap) (K : AV → Prop) : Prop :=
  match tfld P t i with
  | some (off, ft) => match x with
    | .ptr id ver o => (match H id with | .cells v T sz cs => v = ver ∧ cs ≠ [] ∧ (tsz P ft).getD 0 ≠ 0 ∧ K (.ptr id ver (o + off)) | .gone _ => False)
    | .adr (.agg cs) => (match tagg P ft, tsz P ft with
      | some true, some n => n ≠ 0 ∧ off + n ≤ cs.length ∧ K (.adr (.agg ((cs.drop off).take n)))
      | some false, some n => n ≠ 0 ∧ (match cs[off]? with | some y => y.scalar = true ∧ K (.adr y) | none => False)
      | _, _ => False)
    | _ => False
  | none => False
def afld (P : Program) (t : TypeId) (x : AV) (i : Nat) (K : AV → Prop) : Prop :=
  match tfld P t i with
  | some (off, ft) => match x with
    | .agg cs => (match tagg P ft with
      | some true => (match tsz P ft with | some n => off + n ≤ cs.length ∧ K (.agg ((cs.drop off).take n)) | none => False)
      | some false => (match cs[off]? with | some y => K y | none => False)
      | none => False)
    | _ => False
  | none => False

/-! ### 2. They are what the machine does -/
section
variable {P : Program} {o : Oper} {a : Act} {B : Base} {m : Nat → Option (Nat × Nat)} {H : Heap} {N : Nat → Prop} {w : World} {env : Env} {K : AV → Heap → Prop}

theorem out_move (hS : St B m H N w) (hA : ARel m H N w env a) {x : Operand} (ho : o.op = .move x ∨ o.op = .assign x) (h : K (ev env x) H) : Out P o a B m H N w K := by
  refine .pure hS (v := a.eval x) ?_ (hA.ev x) h
  rcases ho with ho | ho <;> simp [execOp, ho]

theorem out_pick (hS : St B m H N w) (hA : ARel m H N w env a) {c x y : Operand} (ho : o.op = .pick c x y) (h : apick (ev env c) (ev env x) (ev env y) fun v => K v H) : Out P o a B m H N w K := by
  unfold apick at h
  split at h
  · rename_i b hb
    have hc := hA.ev c
    rw [hb] at hc
    have hv := rel_bool hc
    refine .pure hS (v := if b then a.eval x else a.eval y) ?_ ?_ h
    · simp [execOp, ho, hv, asBool]
    · cases b
      · exact hA.ev y
      · exact hA.ev x
  · exact h.elim

theorem out_alloc (hS : St B m H N w) {t : TypeId} {d : Nat} (ho : o.op = .alloc t) (h : aalloc P t d H K) : Out P o a B m H N w K := by
  unfold aalloc at h
  split at h
  · rename_i zs hz
    obtain ⟨i, z, hi, hz0, rfl⟩ := tzero_eq hz
    have key := hS.alloc d t 1 (z.cells.toList.map ofV0) z.cells (by simp) (fun j x v h1 h2 => by
      simp only [List.getElem?_map, Option.map_eq_some_iff] at h1
      obtain ⟨y, h3, rfl⟩ := h1
      have : z.cells[j]? = some y := by simpa using h3
      rw [this] at h2; cases h2
      exact rel_ofV0 ..)
    refine .value (v := .pointer (some ⟨w.heap.size, 0, none⟩)) (w' := w.alloc (.cells z.cells t)) ?_ key ?_ h
    · simp [execOp, ho, Instr.alloc, zeroValue, typeInfo, hi, hz0, newVar, newRow]
    · exact .ptr _ _ _ _ rfl (by simp [Blk.ver]) (fun T sz cs hc b sh hm => by rw [upd_same] at hm; injection hm with hm; injection hm with e1 e2; subst e1 e2; rfl)
  · exact h.elim

theorem out_box (hS : St B m H N w) (hA : ARel m H N w env a) {t : TypeId} {x : Operand} {d : Nat} (ho : o.op = .box t x) (h : abox t (ev env x) d H K) : Out P o a B m H N w K := by
  obtain ⟨hb, h⟩ := h
  obtain ⟨f1, f2⟩ := (hA.ev x).flat hb
  have key := hS.alloc d t 1 (flat (ev env x)) (a.eval x).cells (by omega) f2
  refine .value (v := .pointer (some ⟨w.heap.size, 0, none⟩)) (w' := w.alloc (.cells (a.eval x).cells t)) ?_ key ?_ h
  · simp [execOp, ho, Instr.box, newVar, newRow]
  · exact .ptr _ _ _ _ rfl (by simp [Blk.ver]) (fun T sz cs hc b sh hm => by rw [upd_same] at hm; injection hm with hm; injection hm with e1 e2; subst e1 e2; rfl)

theorem addr_add (b o n : Nat) : (⟨b, o, none⟩ : Addr).add n = ⟨b, o + n, none⟩ := by unfold Addr.add; split <;> simp_all

theorem run_loadVar_scalar (t : TypeId) (w : World) (b o : Nat) (v : Value) (ht : tagg P t = some false) (hc : w.cell? ⟨b, o, none⟩ = some v) :
    (loadVar t ⟨b, o, none⟩).run P w = .ok v w := by
  simp [loadVar, run_isAgg_tagg ht, hc]
theorem run_loadVar_agg (t : TypeId) (w : World) (b o : Nat) (vs : List Value) (ht : tagg P t = some true) (hn : tsz P t = some vs.length) (hc : ∀ j v, vs[j]? = some v → w.cell? ⟨b, o + j, none⟩ = some v) :
    (loadVar t ⟨b, o, none⟩).run P w = .ok (.agg vs.toArray) w := by
  have := run_loadCells_list (P := P) w ⟨b, o, none⟩ vs (fun j v hj => by rw [addr_add]; exact hc j v hj)
  simp [loadVar, run_isAgg_tagg ht, run_sizeOf_tsz hn, this]

/-- A block that has cells is there. -/
theorem St.there (hS : St B m H N w) {id ver : Nat} {T : TypeId} {sz : Nat} {cs : List AV} (hH : H id = .cells ver T sz cs) (hne : cs ≠ []) : ∃ b sh, m id = some (b, sh) := by
  cases hm : m id with
  | none => exact absurd (hS.virt id ver T sz cs hH hm) hne
  | some p => exact ⟨p.1, p.2, rfl⟩
/-- What stands in a cell of ours. -/
theorem St.cell (hS : St B m H N w) {id ver : Nat} {T : TypeId} {sz : Nat} {cs : List AV} (hH : H id = .cells ver T sz cs) {b sh : Nat} (hm : m id = some (b, sh)) {j : Nat} {x : AV} (hx : cs[j]? = some x) :
    ∃ v, w.cell? ⟨b, sh + j, none⟩ = some v ∧ Rel m H N w x v := by
  obtain ⟨_, _, c, h1, h2, h3⟩ := hS.own id ver T sz cs b sh hH hm
  have hj : j < cs.length := (List.getElem?_eq_some_iff.1 hx).1
  have hlt : sh + j < c.size := by omega
  refine ⟨c[sh + j], by simp [World.cell?, h1, hlt], h3 j x _ hx (by simp [hlt])⟩

theorem load_run (hS : St B m H N w) {t : TypeId} {x : AV} {v : Value} (hx : Rel m H N w x v) {K' : AV → Prop} (h : aload P t x H K') :
    ∃ ad u y, v = .pointer (some ad) ∧ (loadVar t ad).run P w = .ok u w ∧ K' y ∧ Rel m H N w y u := by
  unfold aload at h
  split at h
  · rename_i y
    have hf := rel_adr hx
    cases hf with
    | adr _ b o' f hN hb hc hr =>
      split at h
      · rename_i ht
        split at h
        · rename_i cs
          obtain ⟨hn, h⟩ := h
          have := run_loadVar_agg (P := P) t w b o' ((List.range cs.length).map f) ht (by simpa using hn) (fun j v hj => by
              simp only [List.getElem?_map, Option.map_eq_some_iff] at hj
              obtain ⟨k, hk, rfl⟩ := hj
              have hk' := List.getElem?_eq_some_iff.1 hk
              obtain ⟨hlt, hk'⟩ := hk'
              simp at hlt hk'
              subst hk'
              obtain ⟨y', hy'⟩ : ∃ y', cs[j]? = some y' := ⟨_, List.getElem?_eq_getElem hlt⟩
              exact hc j y' hy')
          refine ⟨_, _, _, rfl, this, h, .agg _ _ (by simp) fun i x u h1 h2 => ?_⟩
          have hlt := (List.getElem?_eq_some_iff.1 h1).1
          simp [hlt] at h2
          subst h2
          exact .fz (hr i x h1)
        · exact h.elim
      · rename_i ht
        obtain ⟨hs, h⟩ := h
        have hfl : flat y = [y] := by cases y <;> first | rfl | cases hs
        have h0 := hc 0 y (by rw [hfl]; rfl)
        have := run_loadVar_scalar (P := P) t w b o' (f 0) ht (by simpa using h0)
        exact ⟨_, _, _, rfl, this, h, .fz (hr 0 y (by rw [hfl]; rfl))⟩
      · exact h.elim
  · rename_i id ver off
    split at h
    · rename_i v' T sz cs hH
      obtain ⟨rfl, h⟩ := h
      split at h
      · rename_i ht
        split at h
        · rename_i n hn
          obtain ⟨hz, hle, h⟩ := h
          have hne : cs ≠ [] := by rintro rfl; simp at hle; omega
          obtain ⟨b, sh, hm⟩ := hS.there hH hne
          have hp := rel_ptr hx hH hm
          obtain ⟨_, _, c, h1, h2, h3⟩ := hS.own id v' T sz cs b sh hH hm
          have := run_loadVar_agg (P := P) t w b (sh + off) ((c.toList.drop (sh + off)).take n) ht (by simp; rw [hn]; congr 1; omega) (fun j u hj => by
            simp only [List.getElem?_take, List.getElem?_drop] at hj
            split at hj
            · simp [World.cell?, h1]; simpa [Nat.add_assoc] using hj
            · cases hj)
          refine ⟨_, _, _, hp, this, h, .agg _ _ (by simp; omega) fun i x u h4 h5 => ?_⟩
          simp only [List.getElem?_take, List.getElem?_drop] at h4
          split at h4
          · rename_i hi
            refine h3 (off + i) x u h4 ?_
            simp [List.getElem?_take, List.getElem?_drop, hi] at h5
            simpa [Nat.add_assoc] using h5
          · cases h4
        · exact h.elim
      · rename_i ht
        split at h
        · rename_i y hy2
          have hne : cs ≠ [] := by rintro rfl; simp at hy2
          obtain ⟨b, sh, hm⟩ := hS.there hH hne
          have hp := rel_ptr hx hH hm
          obtain ⟨u, hc, hr⟩ := hS.cell hH hm hy2
          have := run_loadVar_scalar (P := P) t w b (sh + off) u ht (by simpa using hc)
          exact ⟨_, _, _, hp, this, h, hr⟩
        · exact h.elim
      · exact h.elim
    · exact h.elim
  · exact h.elim

theorem out_load (hS : St B m H N w) (hA : ARel m H N w env a) {t : TypeId} {x : Operand} (ho : o.op = .load t x) (h : aload P t (ev env x) H fun v => K v H) : Out P o a B m H N w K := by
  obtain ⟨ad, u, y, hv, hr, hK, hrel⟩ := load_run hS (hA.ev x) h
  exact .pure hS (by simp [execOp, ho, Instr.loadAt, hv, Instr.sureAddr, hr]) hrel hK

theorem wr_length (cs : List AV) (off : Nat) (xs : List AV) (h : off + xs.length ≤ cs.length) : (wr cs off xs).length = cs.length := by
  unfold wr
  split
  · simp
  · simp; omega
theorem wr_get (cs : List AV) (off : Nat) (xs : List AV) (h : off + xs.length ≤ cs.length) (j : Nat) : (wr cs off xs)[j]? = if off ≤ j ∧ j < off + xs.length then xs[j - off]? else cs[j]? := by
  unfold wr
  split
  · rename_i x
    simp only [List.length_cons, List.length_nil] at h ⊢
    rw [List.getElem?_set]
    by_cases e : off = j
    · subst e; simp; omega
    · rw [if_neg e, if_neg (by omega)]
  · rename_i hx
    rw [List.append_assoc, List.getElem?_append]
    simp only [List.length_take]
    have hmin : min off cs.length = off := by omega
    rw [hmin]
    by_cases h1 : j < off
    · rw [if_pos h1, if_neg (by omega), List.getElem?_take, if_pos h1]
    · rw [if_neg h1, List.getElem?_append]
      by_cases h2 : j - off < xs.length
      · rw [if_pos h2, if_pos (by omega)]
      · rw [if_neg h2, if_neg (by omega), List.getElem?_drop]
        congr 1; omega

theorem out_store (hS : St B m H N w) (hA : ARel m H N w env a) {t : TypeId} {x y : Operand} (ho : o.op = .store t x y) (h : astore P t (ev env x) (ev env y) H (K .dead)) : Out P o a B m H N w K := by
  have hx := hA.ev x
  unfold astore at h
  split at h
  · rename_i id ver off hy
    rw [hy] at hx
    split at h
    · rename_i v T sz cs hH
      obtain ⟨rfl, hpos, hbx, hall, hn, hle, h⟩ := h
      obtain ⟨f1, f2⟩ := (hA.ev y).flat hbx
      generalize flat (ev env y) = xs at *
      · have hne : cs ≠ [] := by rintro rfl; simp only [List.length_nil] at hle; omega
        obtain ⟨b, sh, hm⟩ := hS.there hH hne
        have hp := rel_ptr hx hH hm
        obtain ⟨_, _, c, h1, h2, h3⟩ := hS.own id v T sz cs b sh hH hm
        have hst := run_storeCells_at P b (sh + off) T (a.eval y).cells.toList 0 c w h1 (by simp; omega) (fun u hu => by
          obtain ⟨i, hi, rfl⟩ := List.getElem_of_mem hu
          have hi' : i < xs.length := by simpa [← f1] using hi
          have := f2 i xs[i] (a.eval y).cells.toList[i] (by simp [hi']) (by simp at hi; simp [hi])
          exact this.one (List.all_eq_true.1 hall _ (List.getElem_mem _)))
        have hlen : (a.eval y).cells.toList.length = xs.length := by simpa using f1
        have key := hS.row hH hm h1 v sh (.inl ⟨rfl, rfl⟩) (wr cs off xs) ((c.toList.take (sh + off)) ++ (a.eval y).cells.toList ++ c.toList.drop (sh + off + (a.eval y).cells.toList.length)).toArray
          (by simp; omega) (by rw [wr_length _ _ _ hle]; simp; omega) (fun j z u h4 h5 => by
            rw [wr_get _ _ _ hle] at h4
            simp only [List.getElem?_toArray, List.append_assoc, List.getElem?_append, List.length_take, Array.length_toList] at h5
            have hmin : min (sh + off) c.size = sh + off := by omega
            rw [hmin] at h5
            split at h4
            · rename_i hj
              rw [if_neg (by omega), if_pos (by omega)] at h5
              exact f2 (j - off) z u h4 (by rw [show sh + j - (sh + off) = j - off from by omega] at h5; simpa using h5)
            · rename_i hj
              refine h3 j z u h4 ?_
              by_cases hj1 : sh + j < sh + off
              · rw [if_pos hj1, List.getElem?_take, if_pos hj1] at h5; simpa using h5
              · rw [if_neg hj1, if_neg (by omega), List.getElem?_drop] at h5
                rw [show sh + off + (a.eval y).cells.size + (sh + j - (sh + off) - (a.eval y).cells.size) = sh + j from by omega] at h5
                simpa using h5)
        rw [show upd m id (some (b, sh)) = m from by funext i; simp only [upd]; split <;> simp_all] at key
        refine .skip ?_ key h
        have hsz : (sizeOf t).run P w = .ok (a.eval y).cells.size w := run_sizeOf_tsz (by rw [hn, ← f1])
        simp only [Nat.add_zero, Array.length_toList] at hst
        simp [execOp, ho, Instr.storeAt, hp, Instr.sureAddr, storeVar, hsz, hst]
    · exact h.elim
  · exact h.elim

theorem out_nil (hS : St B m H N w) (hA : ARel m H N w env a) {x : Operand} (ho : o.op = .nilCheck x) (h : anil (ev env x) H fun v => K v H) : Out P o a B m H N w K := by
  have hx := hA.ev x
  unfold anil at h
  split at h
  · rename_i id ver off hy
    split at h
    · rename_i v T sz cs hH
      obtain ⟨rfl, hne, h⟩ := h
      rw [hy] at hx
      obtain ⟨b, sh, hm⟩ := hS.there hH hne
      have hp := rel_ptr hx hH hm
      refine .pure hS (v := .pointer (some ⟨b, sh + off, none⟩)) ?_ (hp ▸ hx) h
      simp [execOp, ho, hp]
    · exact h.elim
  · rename_i y hy
    rw [hy] at hx
    have hf := rel_adr hx
    generalize hv : a.eval x = v at *
    cases hf with
    | adr _ b o' f hN hb hc hr =>
      refine .pure hS (v := .pointer (some ⟨b, o', none⟩)) ?_ hx h
      simp [execOp, ho, hv]
  · exact h.elim

theorem out_idxAddr (hS : St B m H N w) (hA : ARel m H N w env a) {t : TypeId} {x i : Operand} (ho : o.op = .indexAddr t x i) (h : aidxAddr P t (ev env x) (ev env i) H fun v => K v H) : Out P o a B m H N w K := by
  have hx := hA.ev x
  have hi := hA.ev i
  unfold aidxAddr at h
  split at h
  · rename_i e he
    have hu := telem_eq he
    split at h
    · rename_i sz es k n hxe hie
      obtain ⟨hsz, h0, h⟩ := h
      split at h
      · rename_i y hy
        rw [hxe] at hx; rw [hie] at hi
        have hiv := rel_int hi
        have hf := rel_sl hx
        have hlt : n.toNat < es.length := (List.getElem?_eq_some_iff.1 hy).1
        generalize hv : a.eval x = v at *
        cases hf with
        | sl0 => simp at hlt
        | sl _ _ b o' c f hN hb hne hcap hs hc hr =>
          refine .pure hS (v := .pointer (some ⟨b, o' + n.toNat * sz, none⟩)) ?_ (.fz (.adr y b (o' + n.toNat * sz) (f n.toNat) hN hb (fun i z hz => by rw [Nat.add_assoc]; exact hc _ y i z hy hz) (fun i z hz => hr _ y i z hy hz))) h
          have hlt' : n < (es.length : Int) := by omega
          simp [execOp, ho, Instr.indexAt, hv, hiv, asIntOf, run_underlying hu, h0, hlt', run_sizeOf_tsz hsz, addr_add]
      · exact h.elim
    · rename_i id ver off len k n hxe hie
      split at h
      · rename_i v T sz cs hH
        obtain ⟨rfl, hsz, h0, hlt, h⟩ := h
        rw [hxe] at hx; rw [hie] at hi
        have hiv := rel_int hi
        have hr := rel_ref hx hH
        rcases hr with ⟨hl, _⟩ | ⟨b, sh, cap, c, T', z, hm, hv, hcap, hb, hfit⟩
        · omega
        · refine .pure hS (v := .pointer (some ⟨b, sh + (off + n.toNat * sz), none⟩)) ?_ (.ptr _ _ _ _ rfl (by rw [hH]; exact Nat.le_refl _) (fun T2 sz2 cs2 _ b2 sh2 hm2 => by rw [hm] at hm2; injection hm2 with hm2; injection hm2 with e1 e2; rw [e1, e2])) h
          simp [execOp, ho, Instr.indexAt, hv, hiv, asIntOf, run_underlying hu, h0, hlt, run_sizeOf_tsz hsz, addr_add, Nat.add_assoc]
      · exact h.elim
    · exact h.elim
  · exact h.elim
end
end Go.Abs

/- The abstract machine, part E: fields, numbers, strings, making and cutting slices. -/
set_option linter.unusedVariables false
set_option linter.unusedSimpArgs false
namespace Go.Abs

/-! ### 1. Definitions -/
def abits (op : BinOp) (k : IntKind) (x y : Int) : Int :=
  let a := BitVec.ofInt k.bits x
  let b := BitVec.ofInt k.bits y
  match op with
  | .and => k.wrap (a &&& b).toNat
  | .or => k.wrap (a ||| b).toNat
  | .xor => k.wrap (a ^^^ b).toNat
  | _ => k.wrap (a &&& ~~~b).toNat
def abinInt (op : BinOp) (k : IntKind) (a : Int) (k' : IntKind) (b : Int) (K : AV → Prop) : Prop :=
  match op with
  | .shl => 0 ≤ b ∧ K (.int k (k.wrap (a * 2 ^ (min b.toNat k.bits))))
  | .shr => 0 ≤ b ∧ K (.int k (a.fdiv (2 ^ (min b.toNat k.bits))))
  | .add => k = k' ∧ K (.int k (k.wrap (a + b)))
  | .sub => k = k' ∧ K (.int k (k.wrap (a - b)))
  | .mul => k = k' ∧ K (.int k (k.wrap (a * b)))
  | .quo => k = k' ∧ b ≠ 0 ∧ K (.int k (k.wrap (a.tdiv b)))
  | .rem => k = k' ∧ b ≠ 0 ∧ K (.int k (a.tmod b))
  | .and => k = k' ∧ K (.int k (abits .and k a b))
  | .or => k = k' ∧ K (.int k (abits .or k a b))
  | .xor => k = k' ∧ K (.int k (abits .xor k a b))
  | .andNot => k = k' ∧ K (.int k (abits .andNot k a b))
  | .eql => k = k' ∧ K (.bool (decide (a = b)))
  | .neq => k = k' ∧ K (.bool (!decide (a = b)))
  | .lss => k = k' ∧ K (.bool (decide (a < b)))
  | .leq => k = k' ∧ K (.bool (decide (a ≤ b)))
  | .gtr => k = k' ∧ K (.bool (decide (b < a)))
  | .geq => k = k' ∧ K (.bool (decide (b ≤ a)))
def abinStr (op : BinOp) (a b : ByteArray) (K : AV → Prop) : Prop :=
  match op with
  | .add => a.size + b.size ≤ 9223372036854775807 ∧ K (.str (a ++ b))
  | .eql => K (.bool (a.toList == b.toList))
  | .neq => K (.bool (!(a.toList == b.toList)))
  | _ => False
/-- Is it nil? -/
def aisNil (x : AV) (H : Heap) (K : Bool → Prop) : Prop :=
  match x with
  | .nil => K true
  | .sl _ es => ∀ b : Bool, (b = true → es = []) → K b
  | .ref id ver off len => (match H id with | .cells v T sz cs => v = ver ∧ ∀ b : Bool, (b = true → len = 0) → K b | .gone _ => False)
  | _ => False
/-- Structs of whole numbers, compared. -/
def tcmpGo (P : Program) : Nat → List Field → Bool
  | _, [] => true
  | i, f :: fs => f.name != "_" && f.offset == i && tagg P f.type == some false && (match P.underlying f.type with | some (.int _) => true | _ => false) && tcmpGo P (i + 1) fs
def tcmp (P : Program) (t : TypeId) (n : Nat) : Bool := match P.underlying t with
  | some (.struct fs) => !P.stoodInHeld t && !P.eqGuardType P.depth t && fs.size == n && tcmpGo P 0 fs.toList
  | _ => false
def eqInts : List AV → List AV → (Bool → Prop) → Prop
  | [], [], K => K true
  | .int k a :: l, .int k' b :: l', K => k = k' ∧ eqInts l l' fun r => K (decide (a = b) && r)
  | _, _, _ => False
def abin (P : Program) (op : BinOp) (t : TypeId) (x y : AV) (H : Heap) (K : AV → Prop) : Prop :=
  match x, y with
  | .int k a, .int k' b => abinInt op k a k' b K
  | .str a, .str b => abinStr op a b K
  | .bool a, .bool b => P.underlying t = some .bool ∧ (match op with | .eql => K (.bool (a == b)) | .neq => K (.bool (!(a == b))) | _ => False)
  | .agg cs, .agg ds => tcmp P t cs.length = true ∧ cs.length = ds.length ∧ eqInts cs ds fun r => (match op with | .eql => K (.bool r) | .neq => K (.bool (!r)) | _ => False)
  | x, .nil => (∃ e, telem P t = some e) ∧ (match op with | .eql => aisNil x H fun b => K (.bool b) | .neq => aisNil x H fun b => K (.bool (!b)) | _ => False)
  | _, _ => False
def aun (op : UnOp) (x : AV) (K : AV → Prop) : Prop :=
  match op, x with
  | .not, .bool b => K (.bool (!b))
  | .neg, .int k n => K (.int k (k.wrap (0 - n)))
  | .xor, .int k n => K (.int k (abits .xor k (if k.signed then -1 else k.max) n))
  | _, _ => False
def tint (P : Program) (t : TypeId) : Option IntKind := match P.underlying t with | some (.int k) => some k | _ => none
def aconv (P : Program) (s t : TypeId) (x : AV) (K : AV → Prop) : Prop :=
  match x with
  | .int k n => (P.underlying s).isSome = true ∧ (match tint P t with | some k' => K (.int k' (k'.wrap n)) | none => False)
  | _ => False
def abound (x : Option AV) (dflt : Nat) (K : Nat → Prop) : Prop :=
  match x with
  | none => K dflt
  | some (.int k n) => 0 ≤ n ∧ K n.toNat
  | _ => False
def aslice (P : Program) (t : TypeId) (x : AV) (lo hi : Option AV) (H : Heap) (K : AV → Prop) : Prop :=
  match x with
  | .sl sz es => (match telem P t with
    | some e => tsz P e = some sz ∧ abound hi es.length fun h => abound lo 0 fun l => l ≤ h ∧ h ≤ es.length ∧ K (.sl sz ((es.take h).drop l))
    | none => False)
  | .ref id ver off len => (match telem P t, H id with
    | some e, .cells v T sz cs => v = ver ∧ tsz P e = some sz ∧ abound hi len fun h => abound lo 0 fun l => l ≤ h ∧ h ≤ len ∧ K (.ref id ver (off + l * sz) (h - l))
    | _, _ => False)
  | .str s => P.underlying t = some .string ∧ abound hi s.size fun h => abound lo 0 fun l => l ≤ h ∧ h ≤ s.size ∧ K (.str (s.extract l h))
  | _ => False
def aindex (P : Program) (t : TypeId) (x i : AV) (K : AV → Prop) : Prop :=
  match x, i with
  | .str s, .int k n => P.underlying t = some .string ∧ 0 ≤ n ∧ (match s.data[n.toNat]? with | some b => K (.int .u8 b.toNat) | none => False)
  | _, _ => False
def aextract (x : AV) (i : Nat) (K : AV → Prop) : Prop :=
  match x with
  | .tup vs => (match vs[i]? with | some v => K v | none => False)
  | _ => False

/-! ### 2. They are what the machine does -/
section
variable {P : Program} {o : Oper} {a : Act} {B : Base} {m : Nat → Option (Nat × Nat)} {H : Heap} {N : Nat → Prop} {w : World} {env : Env} {K : AV → Heap → Prop}

theorem out_fldAddr (hS : St B m H N w) (hA : ARel m H N w env a) {t : TypeId} {x : Operand} {i : Nat} (ho : o.op = .fieldAddr t x i) (h : afldAddr P t (ev env x) i H fun v => K v H) : Out P o a B m H N w K := by
  have hx := hA.ev x
  unfold afldAddr at h
  split at h
  · rename_i off ft hfld
    obtain ⟨fs, f, hu, hf, rfl, rfl⟩ := tfld_eq hfld
    split at h
    · rename_i id ver o' hxe
      split at h
      · rename_i v T sz cs hH
        obtain ⟨rfl, hne, hz, h⟩ := h
        rw [hxe] at hx
        obtain ⟨b, sh, hm⟩ := hS.there hH hne
        have hp := rel_ptr hx hH hm
        cases hn : tsz P f.type with
        | none => simp [hn] at hz
        | some n =>
          rw [hn] at hz
          simp at hz
          refine .pure hS (v := .pointer (some ⟨b, sh + (o' + f.offset), none⟩)) ?_ (.ptr _ _ _ _ rfl (by rw [hH]; exact Nat.le_refl _) (fun T2 sz2 cs2 _ b2 sh2 hm2 => by rw [hm] at hm2; injection hm2 with hm2; injection hm2 with e1 e2; rw [e1, e2])) h
          simp [execOp, ho, Instr.fieldAt, run_underlying hu, hf, hp, Instr.sureAddr, fieldPlace, run_sizeOf_tsz hn, hz, addr_add, Nat.add_assoc]
      · exact h.elim
    · rename_i cs hxe
      rw [hxe] at hx
      have hfr := rel_adr hx
      generalize hv : a.eval x = v at *
      cases hfr with
      | adr _ b o' f' hN hb hc hr =>
        have sub : ∀ n, tsz P f.type = some n → n ≠ 0 → ((execOp a.eval o).run P w = .ok (.value (.pointer (some ⟨b, o' + f.offset, none⟩))) w) := fun n hn hz => by
          simp [execOp, ho, Instr.fieldAt, run_underlying hu, hf, hv, Instr.sureAddr, fieldPlace, run_sizeOf_tsz hn, hz, addr_add]
        split at h
        · rename_i n ht hn
          obtain ⟨hz, hle, h⟩ := h
          refine .pure hS (sub n hn hz) (.fz (.adr _ b (o' + f.offset) (fun j => f' (f.offset + j)) hN hb (fun j y hj => ?_) (fun j y hj => ?_))) h
          · simp only [flat, List.getElem?_take, List.getElem?_drop] at hj
            split at hj
            · have := hc (f.offset + j) y hj; rwa [← Nat.add_assoc] at this
            · cases hj
          · simp only [flat, List.getElem?_take, List.getElem?_drop] at hj
            split at hj
            · exact hr _ y hj
            · cases hj
        · rename_i n ht hn
          obtain ⟨hz, h⟩ := h
          split at h
          · rename_i y hy
            obtain ⟨hs, h⟩ := h
            have hfl : flat y = [y] := by cases y <;> first | rfl | cases hs
            refine .pure hS (sub n hn hz) (.fz (.adr _ b (o' + f.offset) (fun j => f' (f.offset + j)) hN hb (fun j z hj => ?_) (fun j z hj => ?_))) h
            · rw [hfl] at hj
              cases j with
              | zero => simp at hj; subst hj; exact hc f.offset _ hy
              | succ j => simp at hj
            · rw [hfl] at hj
              cases j with
              | zero => simp at hj; subst hj; exact hr f.offset _ hy
              | succ j => simp at hj
          · exact h.elim
        · exact h.elim
    · exact h.elim
  · exact h.elim

theorem run_part_agg {t : TypeId} {n : Nat} (cs : Array Value) (off : Nat) (ht : tagg P t = some true) (hn : tsz P t = some n) : (part t cs off).run P w = .ok (.agg (cs.extract off (off + n))) w := by
  simp [part, run_isAgg_tagg ht, run_sizeOf_tsz hn]
theorem run_part_one {t : TypeId} (cs : Array Value) (off : Nat) (ht : tagg P t = some false) {v : Value} (hv : cs[off]? = some v) : (part t cs off).run P w = .ok v w := by
  simp [part, run_isAgg_tagg ht, hv]

theorem out_fld (hS : St B m H N w) (hA : ARel m H N w env a) {t : TypeId} {x : Operand} {i : Nat} (ho : o.op = .field t x i) (h : afld P t (ev env x) i fun v => K v H) : Out P o a B m H N w K := by
  have hx := hA.ev x
  unfold afld at h
  split at h
  · rename_i off ft hfld
    obtain ⟨fs, f, hu, hf, rfl, rfl⟩ := tfld_eq hfld
    split at h
    · rename_i cs hxe
      rw [hxe] at hx
      obtain ⟨vs, hv, hn, hr⟩ := rel_agg hx
      split at h
      · rename_i ht
        split at h
        · rename_i n hsz
          obtain ⟨hle, h⟩ := h
          refine .pure hS (v := .agg (vs.extract f.offset (f.offset + n))) ?_ ?_ h
          · simp [execOp, ho, Instr.field, run_underlying hu, hf, hv, asAgg, run_part_agg _ _ ht hsz]
          · refine .agg _ _ (by simp; omega) fun j y u h1 h2 => ?_
            simp only [List.getElem?_take, List.getElem?_drop] at h1
            split at h1
            · rename_i hj
              refine hr _ y u h1 ?_
              rw [Array.getElem?_extract] at h2
              split at h2
              · exact h2
              · cases h2
            · cases h1
        · exact h.elim
      · rename_i ht
        split at h
        · rename_i y hy
          have hlt := (List.getElem?_eq_some_iff.1 hy).1
          have hvx : vs[f.offset]? = some (vs[f.offset]'(by omega)) := Array.getElem?_eq_getElem _
          refine .pure hS ?_ (hr _ y _ hy hvx) h
          simp only [execOp, ho, Instr.field, hv, asAgg, Sem.run_bind, run_underlying hu, Result.andThen_ok, hf, Sem.run_pure, run_part_one _ _ ht hvx]
        · exact h.elim
      · exact h.elim
    · exact h.elim
  · exact h.elim

theorem run_eqGuard_plain (op : BinOp) (t : TypeId) (x y : Operand) (u v : Value) (hu : ∀ c, u ≠ .agg c) (hn : u ≠ .nilIface) : (eqGuard op t x y u v).run P w = .ok () w := by
  unfold eqGuard
  cases op <;> simp <;> (cases u <;> first | rfl | (exfalso; exact hn rfl) | (exfalso; exact hu _ rfl) | simp)

theorem run_bits (op : BinOp) (t : TypeId) (k : IntKind) (n n' : Int) (h : op = .and ∨ op = .or ∨ op = .xor ∨ op = .andNot) : (binOp op t (.int k n) (.int k n')).run P w = .ok (.int k (abits op k n n')) w := by
  rcases h with rfl | rfl | rfl | rfl <;> cases k <;> rfl
theorem run_equalIn_bool (t : TypeId) (d : Nat) (p q : Bool) (hu : P.underlying t = some .bool) : (Op.equalIn (d + 1) t (.bool p) (.bool q)).run P w = .ok (p == q) w := by
  simp [Op.equalIn, run_underlying hu]
theorem run_eql_bool (t : TypeId) (p q : Bool) (hu : P.underlying t = some .bool) : (binOp .eql t (.bool p) (.bool q)).run P w = .ok (.bool (p == q)) w := by
  simp only [binOp]
  simp [Op.equal, Op.maxDepth, run_equalIn_bool t 9999 p q hu]
theorem run_neq_bool (t : TypeId) (p q : Bool) (hu : P.underlying t = some .bool) : (binOp .neq t (.bool p) (.bool q)).run P w = .ok (.bool (!(p == q))) w := by
  simp only [binOp]
  simp [Op.equal, Op.maxDepth, run_equalIn_bool t 9999 p q hu]

theorem eqFields_run {d : Nat} {vs us : Array Value} {m : Nat → Option (Nat × Nat)} {H : Heap} {N : Nat → Prop} {w0 : World} : ∀ (fs : List Field) (i : Nat) (l l' : List AV) (K : Bool → Prop), tcmpGo P i fs = true → l.length = fs.length → eqInts l l' K →
    (∀ (j : Nat) (x : AV), l[j]? = some x → ∃ v, vs[i + j]? = some v ∧ Rel m H N w0 x v) → (∀ (j : Nat) (x : AV), l'[j]? = some x → ∃ v, us[i + j]? = some v ∧ Rel m H N w0 x v) →
    ∃ r, K r ∧ ∀ w, (Op.eqFields (d + 1) vs us fs).run P w = .ok r w
  | [], i, l, l', K, _, hl, h, _, _ => by
    cases l with
    | nil => cases l' with
      | nil => exact ⟨true, h, fun w => by simp [Op.eqFields]⟩
      | cons => simp [eqInts] at h
    | cons => simp at hl
  | f :: fs, i, l, l', K, hc, hl, h, h1, h2 => by
    cases l with
    | nil => simp at hl
    | cons x l =>
      cases l' with
      | nil => cases x <;> simp [eqInts] at h
      | cons y l' =>
        cases x <;> cases y <;> try (simp [eqInts] at h; done)
        rename_i k a k' b
        simp only [eqInts] at h
        obtain ⟨rfl, h⟩ := h
        simp only [tcmpGo, Bool.and_eq_true, bne_iff_ne, beq_iff_eq] at hc
        obtain ⟨⟨⟨⟨hn, ho⟩, ht⟩, hu⟩, hc⟩ := hc
        obtain ⟨k0, hu⟩ : ∃ k0, P.underlying f.type = some (.int k0) := by
          split at hu
          · exact ⟨_, by assumption⟩
          · cases hu
        obtain ⟨v, hv, hrv⟩ := h1 0 _ rfl
        obtain ⟨u, hu', hru⟩ := h2 0 _ rfl
        have ev := rel_int hrv
        have eu := rel_int hru
        subst ev eu
        rw [Nat.add_zero] at hv hu'
        obtain ⟨r, hK, hrun⟩ := eqFields_run (d := d) fs (i + 1) l l' _ hc (by simpa using hl) h (fun j x hx => by have := h1 (j + 1) x hx; rwa [show i + (j + 1) = i + 1 + j by omega] at this) (fun j x hx => by have := h2 (j + 1) x hx; rwa [show i + (j + 1) = i + 1 + j by omega] at this)
        refine ⟨_, hK, fun w => ?_⟩
        simp only [Op.eqFields, if_pos hn, Sem.run_bind, ho, run_part_one _ _ ht hv, run_part_one _ _ ht hu', Result.andThen_ok, run_equalIn_int w d f.type k k0 a b hu, Sem.run_ite]
        by_cases hab : a = b
        · subst hab
          simp [hrun]
        · simp [hab]
theorem out_bin (hS : St B m H N w) (hA : ARel m H N w env a) {op : BinOp} {t t' : TypeId} {x y : Operand} (ho : o.op = .binOp op t x y t') (h : abin P op t (ev env x) (ev env y) H fun v => K v H) : Out P o a B m H N w K := by
  have hx := hA.ev x
  have hy := hA.ev y
  unfold abin at h
  split at h
  · rename_i k n k' n' hxe hye
    rw [hxe] at hx; rw [hye] at hy
    have hvx := rel_int hx
    have hvy := rel_int hy
    have hg := run_eqGuard_plain (P := P) (w := w) op t x y (.int k n) (.int k' n') (by simp) (by simp)
    unfold abinInt at h
    split at h
    · obtain ⟨h0, h⟩ := h
      refine .pure hS ?_ (.fz (.int _ _)) h
      have : ¬ n' < 0 := by omega
      simp [execOp, ho, hvx, hvy, hg, binOp, Op.shift, this]
    · obtain ⟨h0, h⟩ := h
      refine .pure hS ?_ (.fz (.int _ _)) h
      have : ¬ n' < 0 := by omega
      simp [execOp, ho, hvx, hvy, hg, binOp, Op.shift, this]
    · obtain ⟨rfl, h⟩ := h
      exact .pure hS (by simp [execOp, ho, hvx, hvy, hg, binOp, Op.intArith]) (.fz (.int _ _)) h
    · obtain ⟨rfl, h⟩ := h
      exact .pure hS (by simp [execOp, ho, hvx, hvy, hg, binOp, Op.intArith]) (.fz (.int _ _)) h
    · obtain ⟨rfl, h⟩ := h
      exact .pure hS (by simp [execOp, ho, hvx, hvy, hg, binOp, Op.intArith]) (.fz (.int _ _)) h
    · obtain ⟨rfl, h0, h⟩ := h
      exact .pure hS (by simp [execOp, ho, hvx, hvy, hg, binOp, Op.intDiv, h0]) (.fz (.int _ _)) h
    · obtain ⟨rfl, h0, h⟩ := h
      exact .pure hS (by simp [execOp, ho, hvx, hvy, hg, binOp, Op.intDiv, h0]) (.fz (.int _ _)) h
    · obtain ⟨rfl, h⟩ := h
      exact .pure hS (by simp [execOp, ho, hvx, hvy, hg, run_bits]) (.fz (.int _ _)) h
    · obtain ⟨rfl, h⟩ := h
      exact .pure hS (by simp [execOp, ho, hvx, hvy, hg, run_bits]) (.fz (.int _ _)) h
    · obtain ⟨rfl, h⟩ := h
      exact .pure hS (by simp [execOp, ho, hvx, hvy, hg, run_bits]) (.fz (.int _ _)) h
    · obtain ⟨rfl, h⟩ := h
      exact .pure hS (by simp [execOp, ho, hvx, hvy, hg, run_bits]) (.fz (.int _ _)) h
    · obtain ⟨rfl, h⟩ := h
      exact .pure hS (v := .bool (decide (n = n'))) (by simp [execOp, ho, hvx, hvy, hg, binOp, Op.intCmp]; rfl) (.fz (.bool _)) h
    · obtain ⟨rfl, h⟩ := h
      exact .pure hS (v := .bool (!decide (n = n'))) (by simp [execOp, ho, hvx, hvy, hg, binOp, Op.intCmp]; rfl) (.fz (.bool _)) h
    · obtain ⟨rfl, h⟩ := h
      exact .pure hS (v := .bool (decide (n < n'))) (by simp [execOp, ho, hvx, hvy, hg, binOp, Op.intCmp]) (.fz (.bool _)) h
    · obtain ⟨rfl, h⟩ := h
      exact .pure hS (v := .bool (decide (n ≤ n'))) (by simp [execOp, ho, hvx, hvy, hg, binOp, Op.intCmp]) (.fz (.bool _)) h
    · obtain ⟨rfl, h⟩ := h
      exact .pure hS (v := .bool (decide (n' < n))) (by simp [execOp, ho, hvx, hvy, hg, binOp, Op.intCmp]) (.fz (.bool _)) h
    · obtain ⟨rfl, h⟩ := h
      exact .pure hS (v := .bool (decide (n' ≤ n))) (by simp [execOp, ho, hvx, hvy, hg, binOp, Op.intCmp]) (.fz (.bool _)) h
  · rename_i s s' hxe hye
    rw [hxe] at hx; rw [hye] at hy
    have hvx := rel_str hx
    have hvy := rel_str hy
    have hg := run_eqGuard_plain (P := P) (w := w) op t x y (.string s) (.string s') (by simp) (by simp)
    unfold abinStr at h
    split at h
    · obtain ⟨h0, h⟩ := h
      refine .pure hS ?_ (.fz (.str _)) h
      have : ¬ (9223372036854775807 : Int) < (s.size : Int) + (s'.size : Int) := by omega
      have e : IntKind.i64.max = 9223372036854775807 := rfl
      simp [execOp, ho, hvx, hvy, hg, binOp, Op.stringOp, e, this]
    · exact .pure hS (by simp [execOp, ho, hvx, hvy, hg, binOp, Op.stringOp]) (.fz (.bool _)) h
    · exact .pure hS (by simp [execOp, ho, hvx, hvy, hg, binOp, Op.stringOp]) (.fz (.bool _)) h
    · exact h.elim
  · rename_i p q hxe hye
    rw [hxe] at hx; rw [hye] at hy
    have hvx := rel_bool hx
    have hvy := rel_bool hy
    have hg := run_eqGuard_plain (P := P) (w := w) op t x y (.bool p) (.bool q) (by simp) (by simp)
    obtain ⟨hu, h⟩ := h
    split at h
    · exact .pure hS (v := .bool (p == q)) (by simp [execOp, ho, hvx, hvy, run_eqGuard_plain, run_eql_bool t p q hu]) (.fz (.bool _)) h
    · exact .pure hS (v := .bool (!(p == q))) (by simp [execOp, ho, hvx, hvy, run_eqGuard_plain, run_neq_bool t p q hu]) (.fz (.bool _)) h
    · exact h.elim
  · rename_i cs ds hxe hye
    rw [hxe] at hx; rw [hye] at hy
    obtain ⟨hc, hlen, h⟩ := h
    obtain ⟨vs, hvx, hsx, hrx⟩ := rel_agg hx
    obtain ⟨us, hvy, hsy, hry⟩ := rel_agg hy
    unfold tcmp at hc
    split at hc
    · rename_i fs hu
      simp only [Bool.and_eq_true, Bool.not_eq_true', beq_iff_eq] at hc
      obtain ⟨⟨⟨hst, hgd⟩, hsz⟩, hgo⟩ := hc
      have hfo : P.fieldsOf t = fs := by simp [Program.fieldsOf, hu]
      obtain ⟨r, hK, hrun⟩ := eqFields_run (P := P) (d := 9998) (vs := vs) (us := us) (w0 := w) fs.toList 0 cs ds _ hgo (by simpa using hsz.symm) h
        (fun j x hx => ⟨vs[j]'(by have := (List.getElem?_eq_some_iff.1 hx).1; omega), by simp, hrx j x _ hx (by simp)⟩)
        (fun j x hx => ⟨us[j]'(by have := (List.getElem?_eq_some_iff.1 hx).1; omega), by simp, hry j x _ hx (by simp)⟩)
      have hg := run_eqGuard_agg (P := P) w op t x y vs us hgd
      have heq : (Op.equalIn 10000 t (.agg vs) (.agg us)).run P w = .ok r w := by
        rw [run_equalIn_agg w 9999 t vs us (by rw [hfo, hu]) hst, hfo]
        exact hrun w
      cases op <;> try exact hK.elim
      · refine .pure hS (v := .bool r) ?_ (.fz (.bool _)) hK
        simp [execOp, ho, hvx, hvy, hg, run_eql_struct, heq]
      · refine .pure hS (v := .bool (!r)) ?_ (.fz (.bool _)) hK
        simp [execOp, ho, hvx, hvy, hg, run_neq_struct, heq]
    · cases hc
  · rename_i hye
    obtain ⟨⟨e, he⟩, h⟩ := h
    have hu := telem_eq he
    rw [hye] at hy
    have hvy := rel_nil hy
    -- the value is a slice; whether it is nil
    have main : ∀ K' : Bool → Prop, aisNil (ev env x) H K' → ∃ (A : Option Addr) (n c : Nat), a.eval x = .slice A n c ∧ K' A.isNone := by
      intro K' hK
      unfold aisNil at hK
      split at hK
      · rename_i hxe
        rw [hxe] at hx
        exact ⟨none, 0, 0, rel_nil hx, hK⟩
      · rename_i sz es hxe
        rw [hxe] at hx
        have hf := rel_sl hx
        generalize hv : a.eval x = v at *
        cases hf with
        | sl0 _ A c => exact ⟨A, 0, c, rfl, hK _ (fun _ => rfl)⟩
        | sl _ _ b o' c f hN hb hne hcap hs hc hr => exact ⟨_, _, _, rfl, hK _ (fun h => by simp at h)⟩
      · rename_i id ver off len hxe
        rw [hxe] at hx
        split at hK
        · rename_i v T sz cs hH
          obtain ⟨rfl, hK⟩ := hK
          rcases rel_ref hx hH with ⟨hl, A, hv⟩ | ⟨b, sh, cap, c, T', z, hm, hv, hcap, hb, hfit⟩
          · exact ⟨A, 0, 0, hv, hK _ (fun _ => hl)⟩
          · exact ⟨_, _, _, hv, hK _ (fun h => by simp at h)⟩
        · exact hK.elim
      · exact hK.elim
    split at h
    · obtain ⟨A, n, c, hv, h⟩ := main (fun b => K (.bool b) H) h
      have hg := run_eqGuard_plain (P := P) (w := w) .eql t x y (.slice A n c) (.slice none 0 0) (by simp) (by simp)
      refine .pure hS (v := .bool A.isNone) ?_ (.fz (.bool _)) h
      simp [execOp, ho, hv, hvy, hg, Lib.run_eql_slice_nil w t e A n c 0 0 hu]
    · obtain ⟨A, n, c, hv, h⟩ := main (fun b => K (.bool (!b)) H) h
      have hg := run_eqGuard_plain (P := P) (w := w) .neq t x y (.slice A n c) (.slice none 0 0) (by simp) (by simp)
      refine .pure hS (v := .bool (!A.isNone)) ?_ (.fz (.bool _)) h
      simp [execOp, ho, hv, hvy, hg, run_neq_slice_nil_any w t e A n c 0 0 hu]
    · exact h.elim
  · exact h.elim

theorem out_un (hS : St B m H N w) (hA : ARel m H N w env a) {op : UnOp} {t : TypeId} {x : Operand} (ho : o.op = .unOp op t x) (h : aun op (ev env x) fun v => K v H) : Out P o a B m H N w K := by
  have hx := hA.ev x
  unfold aun at h
  split at h
  · rename_i b hxe
    rw [hxe] at hx
    have hv := rel_bool hx
    exact .pure hS (by simp [execOp, ho, hv, Op.unary]) (.fz (.bool _)) h
  · rename_i k n hxe
    rw [hxe] at hx
    have hv := rel_int hx
    exact .pure hS (v := .int k (k.wrap (0 - n))) (by simp [execOp, ho, hv, Op.unary, Op.intArith]) (.fz (.int _ _)) h
  · rename_i k n hxe
    rw [hxe] at hx
    have hv := rel_int hx
    exact .pure hS (by simp [execOp, ho, hv, Op.unary, Op.intBits]; rfl) (.fz (.int _ _)) h
  · exact h.elim

theorem out_conv (hS : St B m H N w) (hA : ARel m H N w env a) {s t : TypeId} {x : Operand} (ho : o.op = .convert s t x) (h : aconv P s t (ev env x) fun v => K v H) : Out P o a B m H N w K := by
  have hx := hA.ev x
  unfold aconv at h
  split at h
  · rename_i k n hxe
    rw [hxe] at hx
    have hv := rel_int hx
    obtain ⟨hs, h⟩ := h
    obtain ⟨d, hd⟩ := Option.isSome_iff_exists.1 hs
    split at h
    · rename_i k' hk
      have hu : P.underlying t = some (.int k') := by
        unfold tint at hk
        split at hk
        · rename_i k2 hu; injection hk with hk; rw [hu, hk]
        · cases hk
      exact .pure hS (by simp [execOp, ho, hv, convert, run_underlying hd, run_underlying hu, Conv.intToInt]) (.fz (.int _ _)) h
    · exact h.elim
  · exact h.elim

theorem out_index (hS : St B m H N w) (hA : ARel m H N w env a) {t : TypeId} {x i : Operand} (ho : o.op = .index t x i) (h : aindex P t (ev env x) (ev env i) fun v => K v H) : Out P o a B m H N w K := by
  have hx := hA.ev x
  have hi := hA.ev i
  unfold aindex at h
  split at h
  · rename_i s k n hxe hie
    rw [hxe] at hx; rw [hie] at hi
    have hv := rel_str hx
    have hiv := rel_int hi
    obtain ⟨hu, h0, h⟩ := h
    split at h
    · rename_i b hb
      have hb' : s[n.toNat]? = some b := hb
      exact .pure hS (by simp [execOp, ho, hv, hiv, Instr.index, asIntOf, run_underlying hu, h0, hb']) (.fz (.int _ _)) h
    · exact h.elim
  · exact h.elim

theorem out_extract (hS : St B m H N w) (hA : ARel m H N w env a) {x : Operand} {i : Nat} (ho : o.op = .extract x i) (h : aextract (ev env x) i fun v => K v H) : Out P o a B m H N w K := by
  have hx := hA.ev x
  unfold aextract at h
  split at h
  · rename_i vs hxe
    rw [hxe] at hx
    obtain ⟨us, hv, hn, hr⟩ := rel_tup hx
    split at h
    · rename_i y hy
      have hlt := (List.getElem?_eq_some_iff.1 hy).1
      have hux : us[i]? = some (us[i]'(by omega)) := Array.getElem?_eq_getElem _
      refine .pure hS ?_ (hr _ y _ hy hux) h
      simp only [execOp, ho, Instr.extract, hv, hux, Sem.run_bind, Sem.run_pure, Result.andThen_ok]
    · exact h.elim
  · exact h.elim
end
end Go.Abs

/- The abstract machine, part F: building, making, cutting, appending, copying. -/
set_option linter.unusedVariables false
set_option linter.unusedSimpArgs false
namespace Go.Abs

/-! ### 1. Definitions -/
def abuildGo (P : Program) (t : TypeId) : List (Nat × AV) → List AV → (List AV → Prop) → Prop
  | [], cs, K => K cs
  | (i, x) :: r, cs, K => match tfld P t i with
    | some (off, ft) => tsz P ft = some (flat x).length ∧ x.boxable = true ∧ off + (flat x).length ≤ cs.length ∧ abuildGo P t r (wr cs off (flat x)) K
    | none => False
def abuild (P : Program) (t : TypeId) (ps : List (Nat × AV)) (K : AV → Prop) : Prop :=
  tstruct P t = true ∧ match tzero P t with
  | some zs => abuildGo P t ps zs fun cs => K (.agg cs)
  | none => False
def alitGo (sz : Nat) : List (Nat × AV) → List AV → (List AV → Prop) → Prop
  | [], cs, K => K cs
  | (i, x) :: r, cs, K => (flat x).length = sz ∧ x.boxable = true ∧ i * sz + sz ≤ cs.length ∧ alitGo sz r (wr cs (i * sz) (flat x)) K
def abuildSlice (P : Program) (t : TypeId) (n : Nat) (ps : List (Nat × AV)) (d : Nat) (H : Heap) (K : AV → Heap → Prop) : Prop :=
  match telem P t with
  | some e => (match tsz P e, tzero P e with
    | some sz, some zs => n * sz ≤ 16777216 ∧ alitGo sz ps (List.replicate (n * sz) .dead) fun cs => K (.ref d ((H d).ver + 1) 0 n) (upd H d (.cells ((H d).ver + 1) e sz cs))
    | _, _ => False)
  | none => False
def reps (n : Nat) (zs : List AV) : List AV :=
  match zs with
  | [z] => List.replicate n z
  | _ => (List.range (n * zs.length)).map fun j => zs.getD (j % zs.length) .dead
def amake (P : Program) (t : TypeId) (l c : AV) (d : Nat) (H : Heap) (K : AV → Heap → Prop) : Prop :=
  match telem P t with
  | some e => (match tsz P e, tby P e, tzero P e with
    | some sz, some by_, some zs => (match l, c with
      | .int .i64 n, .int .i64 k => 0 ≤ n ∧ n ≤ k ∧ k ≤ 281474976710656 ∧ (by_ : Int) * k ≤ 281474976710656 ∧ zs.length = sz ∧ sz ≠ 0 ∧
          K (.ref d ((H d).ver + 1) 0 n.toNat) (upd H d (.cells ((H d).ver + 1) e sz (reps k.toNat zs)))
      | _, _ => False)
    | _, _, _ => False)
  | none => False

/-! ### 2. They are what the machine does -/
theorem fill_one (place : Nat → Option (Nat × Nat)) (cells : Array Value) (i : Nat) (v : Value) (rest : List (Nat × Value)) (off size : Nat) (h : place i = some (off, size)) (hs : v.cells.size = size) (hl : off + v.cells.size ≤ cells.size) :
    Instr.fill place cells ((i, v) :: rest) = Instr.fill place (v.cells.zipIdx.foldl (fun cs (c, j) => cs.setIfInBounds (off + j) c) cells) rest := by
  simp only [Instr.fill, h]
  rw [if_neg]
  simp [hs]; omega

theorem foldl_set (off : Nat) : ∀ (l : List (Value × Nat)) (cs : Array Value), (l.foldl (fun cs (p : Value × Nat) => cs.setIfInBounds (off + p.2) p.1) cs).size = cs.size
  | [], cs => rfl
  | p :: l, cs => by simp [foldl_set off l]
theorem foldl_set_get (off : Nat) : ∀ (vs : List Value) (k : Nat) (cs : Array Value) (j : Nat), off + k + vs.length ≤ cs.size →
    ((vs.zipIdx k).foldl (fun cs (p : Value × Nat) => cs.setIfInBounds (off + p.2) p.1) cs)[j]? = if off + k ≤ j ∧ j < off + k + vs.length then vs[j - (off + k)]? else cs[j]?
  | [], k, cs, j, _ => by simp; intro h; omega
  | v :: vs, k, cs, j, h => by
    simp only [List.length_cons] at h
    simp only [List.zipIdx_cons, List.foldl_cons]
    rw [foldl_set_get off vs (k + 1) _ j (by simp; omega)]
    by_cases h1 : off + (k + 1) ≤ j ∧ j < off + (k + 1) + vs.length
    · rw [if_pos h1, if_pos (by simp only [List.length_cons]; omega), show j - (off + k) = (j - (off + (k + 1))) + 1 from by omega, List.getElem?_cons_succ]
    · rw [if_neg h1]
      by_cases h2 : j = off + k
      · subst h2
        rw [if_pos (by simp only [List.length_cons]; omega)]
        simp [show off + k < cs.size from by omega]
      · rw [if_neg (by simp only [List.length_cons]; omega), Array.getElem?_setIfInBounds, if_neg (by omega)]

section
variable {P : Program} {o : Oper} {a : Act} {B : Base} {m : Nat → Option (Nat × Nat)} {H : Heap} {N : Nat → Prop} {w : World} {env : Env} {K : AV → Heap → Prop}

/-- Cells beside cells. -/
def CRel (m : Nat → Option (Nat × Nat)) (H : Heap) (N : Nat → Prop) (w : World) (cs : List AV) (c : Array Value) : Prop :=
  c.size = cs.length ∧ ∀ (j : Nat) (x : AV) (v : Value), cs[j]? = some x → c[j]? = some v → Rel m H N w x v

theorem CRel.wr {cs : List AV} {c : Array Value} (h : CRel m H N w cs c) {x : AV} {v : Value} (hx : Rel m H N w x v) (hb : x.boxable = true) {off : Nat} (hl : off + (flat x).length ≤ cs.length) :
    CRel m H N w (wr cs off (flat x)) (v.cells.zipIdx.foldl (fun cs (p : Value × Nat) => cs.setIfInBounds (off + p.2) p.1) c) := by
  obtain ⟨f1, f2⟩ := hx.flat hb
  have e : v.cells.zipIdx.foldl (fun cs (p : Value × Nat) => cs.setIfInBounds (off + p.2) p.1) c = (v.cells.toList.zipIdx 0).foldl (fun cs (p : Value × Nat) => cs.setIfInBounds (off + p.2) p.1) c := by
    rw [← Array.foldl_toList]; simp
  rw [e]
  refine ⟨by rw [foldl_set, wr_length _ _ _ hl, h.1], fun j z u h1 h2 => ?_⟩
  have hc := h.1
  rw [foldl_set_get off _ 0 c j (by simp; omega)] at h2
  rw [wr_get _ _ _ hl] at h1
  simp only [Nat.add_zero, Array.length_toList] at h2
  split at h1
  · rename_i hj
    rw [if_pos (by omega)] at h2
    exact f2 _ z u h1 (by simpa using h2)
  · rename_i hj
    rw [if_neg (by omega)] at h2
    exact h.2 j z u h1 h2

theorem zero_crel {z : Value} {zs : List AV} (h : zs = z.cells.toList.map ofV0) : CRel m H N w zs z.cells := by
  subst h
  refine ⟨by simp, fun j x v h1 h2 => ?_⟩
  simp only [List.getElem?_map, Option.map_eq_some_iff] at h1
  obtain ⟨y, h3, rfl⟩ := h1
  have : z.cells[j]? = some y := by simpa using h3
  rw [this] at h2; cases h2
  exact rel_ofV0 ..

theorem fill_build (hA : ARel m H N w env a) {t : TypeId} {fs : Array Field} (hu : P.underlying t = some (.struct fs)) (places : Array (Nat × Nat)) (hp : ∀ (i : Nat) (f : Field) (n : Nat), fs[i]? = some f → tsz P f.type = some n → places[i]? = some (f.offset, n)) :
    ∀ (ps : List (Nat × Operand)) (cs : List AV) (c : Array Value) (K : List AV → Prop), CRel m H N w cs c → abuildGo P t (ps.map fun p => (p.1, ev env p.2)) cs K →
      ∃ cs' c', Instr.fill (places[·]?) c (ps.map fun p => (p.1, a.eval p.2)) = some c' ∧ CRel m H N w cs' c' ∧ K cs'
  | [], cs, c, K, hc, h => ⟨cs, c, rfl, hc, h⟩
  | (i, x) :: ps, cs, c, K, hc, h => by
    simp only [List.map_cons, abuildGo] at h
    split at h
    · rename_i off ft hfld
      obtain ⟨h1, h2, h3, h⟩ := h
      obtain ⟨fs', f, hu', hf, rfl, rfl⟩ := tfld_eq hfld
      rw [hu] at hu'; injection hu' with hu'; injection hu' with hu'; subst hu'
      have hfl := ((hA.ev x).flat h2).1
      have hc1 := hc.1
      obtain ⟨cs', c', g1, g2, g3⟩ := fill_build hA hu places hp ps _ _ K (hc.wr (hA.ev x) h2 h3) h
      refine ⟨cs', c', ?_, g2, g3⟩
      rw [List.map_cons, fill_one _ _ _ _ _ f.offset (flat (ev env x)).length (hp i f _ hf h1) hfl (by omega)]
      exact g1
    · exact h.elim

theorem run_mapM_places (fs : Array Field) (h : ∀ f : Field, f ∈ fs → ∃ n, tsz P f.type = some n) :
    ∃ places : Array (Nat × Nat), (fs.mapM fun f => do pure (f.offset, ← sizeOf f.type) : Sem (Array (Nat × Nat))).run P w = .ok places w ∧ ∀ (i : Nat) (f : Field) (n : Nat), fs[i]? = some f → tsz P f.type = some n → places[i]? = some (f.offset, n) := by
  have key : ∀ l : List Field, (∀ f : Field, f ∈ l → ∃ n, tsz P f.type = some n) → ∃ pl : List (Nat × Nat), (l.mapM fun f => do pure (f.offset, ← sizeOf f.type) : Sem (List (Nat × Nat))).run P w = .ok pl w ∧ ∀ (i : Nat) (f : Field) (n : Nat), l[i]? = some f → tsz P f.type = some n → pl[i]? = some (f.offset, n) := by
    intro l
    induction l with
    | nil => intro _; exact ⟨[], by simp, by simp⟩
    | cons f l ih =>
      intro h
      obtain ⟨n, hn⟩ := h f (by simp)
      obtain ⟨pl, h1, h2⟩ := ih (fun g hg => h g (by simp [hg]))
      refine ⟨(f.offset, n) :: pl, ?_, fun i g k hg hk => ?_⟩
      · simp [List.mapM_cons, run_sizeOf_tsz hn]
        simp at h1
        rw [h1]; rfl
      · cases i with
        | zero => simp at hg; subst hg; rw [hn] at hk; injection hk with hk; simp [hk]
        | succ i => simp at hg ⊢; exact h2 i g k hg hk
  obtain ⟨pl, h1, h2⟩ := key fs.toList (fun f hf => h f (by simpa using hf))
  refine ⟨pl.toArray, ?_, fun i f n hf hn => by simpa using h2 i f n (by simpa using hf) hn⟩
  rw [Array.mapM_eq_mapM_toList]
  simp at h1 ⊢
  rw [h1]; rfl

theorem out_build (hS : St B m H N w) (hA : ARel m H N w env a) {t : TypeId} {ps : Array (Nat × Operand)} (ho : o.op = .build t ps) (h : abuild P t (ps.toList.map fun p => (p.1, ev env p.2)) fun v => K v H) : Out P o a B m H N w K := by
  obtain ⟨hst, h⟩ := h
  split at h
  · rename_i zs hz
    obtain ⟨i, z, hi, hz0, hzs⟩ := tzero_eq hz
    unfold tstruct at hst
    split at hst
    · rename_i fs hu
      have hall : ∀ f : Field, f ∈ fs → ∃ n, tsz P f.type = some n := fun f hf => by
        have := Array.all_eq_true'.1 hst f hf
        obtain ⟨i, hi⟩ := Option.isSome_iff_exists.1 this
        exact ⟨i.size, by simp [tsz, hi]⟩
      obtain ⟨places, h1, h2⟩ := run_mapM_places (P := P) (w := w) fs hall
      obtain ⟨cs', c', g1, g2, g3⟩ := fill_build hA hu places h2 ps.toList zs z.cells (fun cs => K (.agg cs) H) (zero_crel hzs) h
      have hps : (ps.map fun p => (p.1, a.eval p.2)).toList = ps.toList.map fun p => (p.1, a.eval p.2) := by simp
      refine .pure hS (v := .agg c') ?_ (.agg cs' c' g2.1 g2.2) g3
      simp only [execOp, ho, Instr.build, zeroValue, typeInfo, Sem.run_bind, run_program, Result.andThen_ok, hi, hz0, Sem.run_pure, run_underlying hu, h1, hps, g1]
    · cases hst
  · exact h.elim

theorem fill_lit (hA : ARel m H N w env a) (sz : Nat) :
    ∀ (ps : List (Nat × Operand)) (cs : List AV) (c : Array Value) (K : List AV → Prop), CRel m H N w cs c → alitGo sz (ps.map fun p => (p.1, ev env p.2)) cs K →
      ∃ cs' c', Instr.fill (fun i => some (i * sz, sz)) c (ps.map fun p => (p.1, a.eval p.2)) = some c' ∧ CRel m H N w cs' c' ∧ cs'.length = cs.length ∧ K cs'
  | [], cs, c, K, hc, h => ⟨cs, c, rfl, hc, rfl, h⟩
  | (i, x) :: ps, cs, c, K, hc, h => by
    simp only [List.map_cons, alitGo] at h
    obtain ⟨h1, h2, h3, h⟩ := h
    have hfl := ((hA.ev x).flat h2).1
    have hc1 := hc.1
    obtain ⟨cs', c', g1, g2, g4, g3⟩ := fill_lit hA sz ps _ _ K (hc.wr (hA.ev x) h2 (by omega)) h
    refine ⟨cs', c', ?_, g2, by rw [g4, wr_length _ _ _ (by omega)], g3⟩
    rw [List.map_cons, fill_one _ _ i (a.eval x) _ (i * sz) sz rfl (by omega) (by omega)]
    exact g1

theorem out_buildSlice (hS : St B m H N w) (hA : ARel m H N w env a) {t : TypeId} {n : Nat} {ps : Array (Nat × Operand)} {d : Nat} (ho : o.op = .buildSlice t n ps)
    (h : abuildSlice P t n (ps.toList.map fun p => (p.1, ev env p.2)) d H K) : Out P o a B m H N w K := by
  unfold abuildSlice at h
  split at h
  · rename_i e he
    have hu := telem_eq he
    split at h
    · rename_i sz zs hsz hz
      obtain ⟨hle, h⟩ := h
      obtain ⟨i, z, hi, hz0, hzs⟩ := tzero_eq hz
      have hle' : ¬ (n * sz > 2 ^ 24) := by omega
      have start : ∀ c0 : Array Value, c0.size = n * sz → ∃ cs' c', Instr.fill (fun i => some (i * sz, sz)) c0 (ps.toList.map fun p => (p.1, a.eval p.2)) = some c' ∧ CRel m H N w cs' c' ∧ cs'.length = n * sz ∧
          K (.ref d ((H d).ver + 1) 0 n) (upd H d (.cells ((H d).ver + 1) e sz cs')) := fun c0 hc0 => by
        have := fill_lit hA sz ps.toList (List.replicate (n * sz) .dead) c0
          (fun cs => K (.ref d ((H d).ver + 1) 0 n) (upd H d (.cells ((H d).ver + 1) e sz cs))) ⟨by simp [hc0], fun j x v h1 h2 => by
            obtain ⟨hj, hx⟩ := List.getElem?_eq_some_iff.1 h1
            simp at hx; subst hx; exact .dead _⟩ h
        simpa using this
      have hps : (ps.map fun p => (p.1, a.eval p.2)).toList = ps.toList.map fun p => (p.1, a.eval p.2) := by simp
      have fin : ∀ cs' c', CRel m H N w cs' c' → cs'.length = n * sz → K (.ref d ((H d).ver + 1) 0 n) (upd H d (.cells ((H d).ver + 1) e sz cs')) →
          (execOp a.eval o).run P w = .ok (.value (.slice (some ⟨w.heap.size, 0, none⟩) n n)) (w.alloc (.cells c' e)) → Out P o a B m H N w K := fun cs' c' g2 g4 g3 hrun => by
        refine .value hrun (hS.alloc d e sz cs' c' (by rw [g2.1]; exact Nat.le_refl _) g2.2) ?_ g3
        refine .ref _ _ _ _ _ rfl (by simp [Blk.ver]) (fun T sz2 cs2 hc => ?_)
        rw [upd_same] at hc; injection hc with _ e2 e3 e4
        refine .inr ⟨w.heap.size, 0, n, c', e, (0, 0), upd_same .., by simp, Nat.le_refl _, heap_alloc_new w _, ?_⟩
        have := g2.1
        rw [← e3]; omega
      by_cases h0 : n * sz = 0
      · obtain ⟨cs', c', g1, g2, g4, g3⟩ := start ((Array.range (n * sz)).map ((#[] : Array Value)[· % (#[] : Array Value).size]!)) (by simp)
        refine fin cs' c' g2 g4 g3 ?_
        simp only [execOp, ho, Instr.buildSlice, Sem.run_bind, run_underlying hu, Result.andThen_ok, run_sizeOf_tsz hsz, if_neg hle', if_pos h0, hps, g1, newRow, run_newObj, Sem.run_pure, World.alloc_eq]
      · obtain ⟨cs', c', g1, g2, g4, g3⟩ := start ((Array.range (n * sz)).map (z.cells[· % z.cells.size]!)) (by simp)
        refine fin cs' c' g2 g4 g3 ?_
        simp only [execOp, ho, Instr.buildSlice, Sem.run_bind, run_underlying hu, Result.andThen_ok, run_sizeOf_tsz hsz, if_neg hle', if_neg h0, hps, g1, newRow, run_newObj, Sem.run_pure, World.alloc_eq, zeroValue, typeInfo, run_program, hi, hz0]
    · exact h.elim
  · exact h.elim
end
end Go.Abs

/- The abstract machine, part G: make, cut, append, copy, len, min, max. -/
set_option linter.unusedVariables false
set_option linter.unusedSimpArgs false
namespace Go.Abs

/-! ### 1. Definitions -/
def alen (P : Program) (t : TypeId) (x : AV) (H : Heap) (K : AV → Prop) : Prop :=
  match x with
  | .sl sz es => (∃ e, telem P t = some e) ∧ K (.int .i64 es.length)
  | .nil => (∃ e, telem P t = some e) ∧ K (.int .i64 0)
  | .ref id ver off len => (∃ e, telem P t = some e) ∧ (match H id with | .cells v T sz cs => v = ver ∧ K (.int .i64 len) | .gone _ => False)
  | .str s => P.underlying t = some .string ∧ K (.int .i64 s.size)
  | _ => False
/-- The cells of a slice that is a source. -/
def asrc (sz : Nat) (H : Heap) (x : AV) (K : List AV → Nat → Prop) : Prop :=
  match x with
  | .nil => K [] 0
  | .sl sz' es => sz' = sz ∧ K (es.flatMap flat) es.length
  | .ref id ver off len => (match H id with
    | .cells v T sz' cs => v = ver ∧ sz' = sz ∧ off + len * sz ≤ cs.length ∧ K ((cs.drop off).take (len * sz)) len
    | .gone _ => False)
  | _ => False
def aappend (P : Program) (t : TypeId) (s x : AV) (d : Nat) (H : Heap) (K : AV → Heap → Prop) : Prop :=
  match telem P t with
  | some e => (match tsz P e, tby P e, tzero P e with
    | some sz, some by_, some zs => sz ≠ 0 ∧ by_ ≠ 0 ∧ zs.length = sz ∧ asrc sz H x fun news n => (match s with
      | .ref id ver off len => (match H id with
        | .cells v T sz' cs => v = ver ∧ T = e ∧ sz' = sz ∧ off + len * sz ≤ cs.length ∧ (len + n) * by_ ≤ 140737488355328 ∧ news.all AV.scalar = true ∧
            K (.ref id (ver + 1) 0 (len + n)) (upd H id (.cells (ver + 1) e sz ((cs.drop off).take (len * sz) ++ news)))
        | .gone _ => False)
      | .nil => n * by_ ≤ 140737488355328 ∧ news.all AV.scalar = true ∧ K (.ref d ((H d).ver + 1) 0 n) (upd H d (.cells ((H d).ver + 1) e sz news))
      | _ => False)
    | _, _, _ => False)
  | none => False
def amm (max : Bool) (x y : AV) (K : AV → Prop) : Prop :=
  match x, y with
  | .int k n, .int k' n' => k = k' ∧ K (.int k (if max then (if n < n' then n' else n) else (if n' < n then n' else n)))
  | _, _ => False

section
variable {P : Program} {o : Oper} {a : Act} {B : Base} {m : Nat → Option (Nat × Nat)} {H : Heap} {N : Nat → Prop} {w : World} {env : Env} {K : AV → Heap → Prop}

theorem reps_crel (n : Nat) {z : Value} {zs : List AV} (hz : zs = z.cells.toList.map ofV0) (hs : z.cells.size ≠ 0) :
    CRel m H N w (reps n zs) ((Array.range (n * zs.length)).map (z.cells[· % z.cells.size]!)) := by
  have hl : zs.length = z.cells.size := by simp [hz]
  refine ⟨?_, fun j x v h1 h2 => ?_⟩
  · unfold reps
    split <;> simp
  · have h3 : j < n * zs.length := by
      have := (Array.getElem?_eq_some_iff.1 h2).1
      simpa using this
    simp [h3] at h2
    have hmod : j % z.cells.size < z.cells.size := Nat.mod_lt _ (by omega)
    have hx : x = ofV0 (z.cells[j % z.cells.size]'hmod) := by
      unfold reps at h1
      split at h1
      · rename_i y
        have h4 := List.getElem?_eq_some_iff.1 h1
        obtain ⟨_, h4⟩ := h4
        simp at h4
        have hsz1 : z.cells.size = 1 := by simp at hl; omega
        have h0 : j % z.cells.size = 0 := by rw [hsz1]; omega
        have : ([y] : List AV)[j % z.cells.size]? = (z.cells.toList.map ofV0)[j % z.cells.size]? := by rw [hz]
        rw [h0] at this
        simp at this
        rw [← h4]
        have hh : z.cells[0]? = some (z.cells[j % z.cells.size]'hmod) := by
          rw [Array.getElem?_eq_getElem (by omega)]
          simp [h0]
        rw [hh] at this
        simpa using this
      · simp only [List.getElem?_map] at h1
        rw [List.getElem?_range (by simpa using h3)] at h1
        simp only [Option.map_some, Option.some.injEq] at h1
        rw [← h1, hl, hz]
        simp [List.getD, hmod]
    rw [hx]
    have hv : v = z.cells[j % z.cells.size]'hmod := by
      rw [← h2]
      simp [hmod]
    rw [hv]
    exact rel_ofV0 ..

theorem out_make (hS : St B m H N w) (hA : ARel m H N w env a) {t : TypeId} {l c : Operand} {d : Nat} (ho : o.op = .makeSlice t l c) (h : amake P t (ev env l) (ev env c) d H K) : Out P o a B m H N w K := by
  unfold amake at h
  split at h
  · rename_i e he
    have hu := telem_eq he
    split at h
    · rename_i sz by_ zs hsz hby hz
      obtain ⟨i, z, hi, hz0, hzs⟩ := tzero_eq hz
      split at h
      · rename_i n k hl hc
        obtain ⟨h1, h2, h3, h4, h5, h6, h⟩ := h
        have hlv := rel_int (hl ▸ hA.ev l)
        have hcv := rel_int (hc ▸ hA.ev c)
        have hib : i.bytes = by_ := by simpa [tby, hi] using hby
        have hw : ∀ q : Int, 0 ≤ q → q ≤ 281474976710656 → IntKind.i64.wrap q = q := fun q h0 h1 => by
          unfold IntKind.wrap
          simp only [IntKind.bits, IntKind.signed, Bool.true_and]
          rw [if_neg (by simp; omega)]
          omega
        have hn : IntKind.i64.wrap n = n := hw n h1 (by omega)
        have hk : IntKind.i64.wrap k = k := hw k (by omega) h3
        have hzl : z.cells.size = sz := by rw [← h5, hzs]; simp
        have hcr := reps_crel (m := m) (H := H) (N := N) (w := w) k.toNat hzs (by omega)
        have key := hS.alloc d e sz (reps k.toNat zs) ((Array.range (k.toNat * zs.length)).map (z.cells[· % z.cells.size]!)) (by rw [hcr.1]; exact Nat.le_refl _) hcr.2
        have hrun : (execOp a.eval o).run P w = .ok (.value (.slice (some ⟨w.heap.size, 0, none⟩) n.toNat k.toNat)) (w.alloc (.cells ((Array.range (k.toNat * zs.length)).map (z.cells[· % z.cells.size]!)) e)) := by
          have g1 : ¬ k < 0 := by omega
          have g2 : ¬ (281474976710656 : Int) < i.bytes * k := by rw [hib]; omega
          have g3 : ¬ n < 0 := by omega
          have g4 : ¬ k < n := by omega
          by_cases h0 : k.toNat = 0
          · simp [execOp, ho, Instr.makeSlice, run_underlying hu, hlv, hcv, asInt, asIntOf, typeInfo, hi, hn, hk, g1, g2, g3, g4, run_sizeOf_tsz hsz, h0, newRow]
            have hr0 : Array.range 0 = #[] := Array.eq_empty_of_size_eq_zero (by simp)
            simp [hr0]
          · simp [execOp, ho, Instr.makeSlice, run_underlying hu, hlv, hcv, asInt, asIntOf, typeInfo, hi, hn, hk, g1, g2, g3, g4, run_sizeOf_tsz hsz, h0, h6, newRow, zeroValue, hz0, h5]
            intro hh
            rcases Nat.mul_eq_zero.1 hh with h7 | h7
            · exact absurd h7 h0
            · exact absurd h7 h6
        refine .value hrun key ?_ h
        refine .ref _ _ _ _ _ rfl (by simp [Blk.ver]) (fun T sz2 cs2 hc => ?_)
        rw [upd_same] at hc; injection hc with _ e2 e3 e4
        refine .inr ⟨w.heap.size, 0, k.toNat, _, e, (0, 0), upd_same .., by simp, by omega, heap_alloc_new w _, ?_⟩
        simp [← e3, h5]
      · exact h.elim
    · exact h.elim
  · exact h.elim

theorem bound_run (hA : ARel m H N w env a) (x : Option Operand) (dflt : Nat) {K' : Nat → Prop} (h : abound (x.map (ev env)) dflt K') :
    ∃ n, K' n ∧ (match x.map a.eval with | none => n = dflt | some v => ∃ k, v = .int k n) := by
  cases x with
  | none => exact ⟨dflt, h, rfl⟩
  | some y =>
    simp only [Option.map_some] at h ⊢
    have hy := hA.ev y
    unfold abound at h
    split at h
    · rename_i hx; cases hx
    · rename_i k n hx
      injection hx with hx
      rw [hx] at hy
      obtain ⟨h0, h⟩ := h
      refine ⟨n.toNat, h, k, ?_⟩
      rw [rel_int hy, Int.toNat_of_nonneg h0]
    · exact h.elim

theorem run_sliceBounds (isSlice : Bool) (len cap : Nat) (lo hi : Option Value) (l hh : Nat) (hlo : match lo with | none => l = 0 | some v => ∃ k, v = .int k l) (hhi : match hi with | none => hh = len | some v => ∃ k, v = .int k hh)
    (h1 : l ≤ hh) (h2 : hh ≤ cap) : (Instr.sliceBounds isSlice len cap lo hi none).run P w = .ok (l, hh, cap) w := by
  have e1 : (l : Int) ≤ (hh : Int) := by omega
  have e2 : (hh : Int) ≤ (cap : Int) := by omega
  cases lo with
  | none =>
    cases hi with
    | none => simp only at hlo hhi; subst hlo hhi; simp [Instr.sliceBounds]
    | some v => obtain ⟨k, rfl⟩ := hhi; simp only at hlo; subst hlo; simp [Instr.sliceBounds, Instr.sliceBound, asIntOf, h2]
  | some u =>
    obtain ⟨k', rfl⟩ := hlo
    cases hi with
    | none => simp only at hhi; subst hhi; simp [Instr.sliceBounds, Instr.sliceBound, asIntOf, h1]
    | some v => obtain ⟨k, rfl⟩ := hhi; simp [Instr.sliceBounds, Instr.sliceBound, asIntOf, h1, h2]

theorem out_slice (hS : St B m H N w) (hA : ARel m H N w env a) {t : TypeId} {x : Operand} {lo hi : Option Operand} (ho : o.op = .slice t x lo hi none)
    (h : aslice P t (ev env x) (lo.map (ev env)) (hi.map (ev env)) H fun v => K v H) : Out P o a B m H N w K := by
  have hx := hA.ev x
  unfold aslice at h
  split at h
  · rename_i sz es hxe
    rw [hxe] at hx
    split at h
    · rename_i e he
      have hu := telem_eq he
      obtain ⟨hsz, h⟩ := h
      obtain ⟨hh, h, hhv⟩ := bound_run hA hi es.length h
      obtain ⟨l, h, hlv⟩ := bound_run hA lo 0 h
      obtain ⟨h1, h2, h⟩ := h
      have hf := rel_sl hx
      generalize hv : a.eval x = v at *
      have hsub : ((es.take hh).drop l).length = hh - l := by simp; omega
      cases hf with
      | sl0 _ A c =>
        have hb := run_sliceBounds (P := P) (w := w) true 0 c (lo.map a.eval) (hi.map a.eval) l hh hlv hhv h1 (by simp at h2; omega)
        have hh0 : hh = 0 := by simpa using h2
        have hl0 : l = 0 := by omega
        subst hh0 hl0
        simp at h
        refine .pure hS (v := .slice (if c = 0 then A else A.map (·.add (0 * sz))) 0 c) ?_ (.fz (.sl0 ..)) h
        simp only [execOp, ho, Instr.sliceAt, run_underlying hu, hv, Sem.run_bind, Result.andThen_ok, Instr.slice, Option.map_none, hb, run_sizeOf_tsz hsz, Sem.run_pure, Nat.sub_zero]
      | sl _ _ b o' c f hN hb hne hcap hs hc hr =>
        have hbd := run_sliceBounds (P := P) (w := w) true es.length c (lo.map a.eval) (hi.map a.eval) l hh hlv hhv h1 (by omega)
        refine .pure hS (v := .slice (if c = l then some ⟨b, o', none⟩ else some ⟨b, o' + l * sz, none⟩) (hh - l) (c - l)) ?_ (.fz ?_) h
        · simp only [execOp, ho, Instr.sliceAt, run_underlying hu, hv, Sem.run_bind, Result.andThen_ok, Instr.slice, Option.map_none, hbd, run_sizeOf_tsz hsz, Sem.run_pure, Option.map_some, addr_add]
        · by_cases hlh : l = hh
          · subst hlh
            have : (es.take l).drop l = [] := List.eq_nil_of_length_eq_zero (by rw [hsub]; omega)
            rw [this, Nat.sub_self]
            exact .sl0 ..
          · rw [if_neg (by omega), ← hsub]
            have hget : ∀ (j : Nat) (e : AV), ((es.take hh).drop l)[j]? = some e → es[l + j]? = some e := fun j e he => by
              simp only [List.getElem?_drop, List.getElem?_take] at he
              split at he
              · exact he
              · cases he
            refine .sl sz _ b (o' + l * sz) (c - l) (fun j i => f (l + j) i) hN hb (by intro h0; rw [h0] at hsub; simp at hsub; omega) (by omega) (fun j e he => hs _ e (hget j e he)) (fun j e i y he hy => ?_) (fun j e i y he hy => hr _ e i y (hget j e he) hy)
            have := hc (l + j) e i y (hget j e he) hy
            rw [show o' + l * sz + (j * sz + i) = o' + ((l + j) * sz + i) from by rw [Nat.add_mul]; omega]
            exact this
    · exact h.elim
  · rename_i id ver off len hxe
    rw [hxe] at hx
    split at h
    · rename_i e v T sz cs he hH
      have hu := telem_eq he
      obtain ⟨rfl, hsz, h⟩ := h
      obtain ⟨hh, h, hhv⟩ := bound_run hA hi len h
      obtain ⟨l, h, hlv⟩ := bound_run hA lo 0 h
      obtain ⟨h1, h2, h⟩ := h
      rcases rel_ref hx hH with ⟨hl, A, hv⟩ | ⟨b, sh, cap, c, T', z, hm, hv, hcap, hb, hfit⟩
      · have hb := run_sliceBounds (P := P) (w := w) true 0 0 (lo.map a.eval) (hi.map a.eval) l hh hlv (by subst hl; exact hhv) h1 (by omega)
        have hh0 : hh = 0 := by omega
        have hl0 : l = 0 := by omega
        subst hh0 hl0
        refine .pure hS (v := .slice A 0 0) ?_ (.ref _ _ _ _ _ rfl (by rw [hH]; exact Nat.le_refl _) (fun T sz2 cs2 _ => .inl ⟨rfl, A, rfl⟩)) h
        simp [execOp, ho, Instr.sliceAt, run_underlying hu, hv, Instr.slice, hb, run_sizeOf_tsz hsz]
      · have hbd := run_sliceBounds (P := P) (w := w) true len cap (lo.map a.eval) (hi.map a.eval) l hh hlv hhv h1 (by omega)
        refine .pure hS (v := .slice (if cap = l then some ⟨b, sh + off, none⟩ else some ⟨b, sh + off + l * sz, none⟩) (hh - l) (cap - l)) ?_ ?_ h
        · simp only [execOp, ho, Instr.sliceAt, run_underlying hu, hv, Sem.run_bind, Result.andThen_ok, Instr.slice, Option.map_none, hbd, run_sizeOf_tsz hsz, Sem.run_pure, Option.map_some, addr_add]
        · refine .ref _ _ _ _ _ rfl (by rw [hH]; exact Nat.le_refl _) (fun T2 sz2 cs2 hc2 => ?_)
          rw [hH] at hc2; injection hc2 with _ _ e3 _
          by_cases hcl : cap = l
          · refine .inl ⟨by omega, some ⟨b, sh + off, none⟩, ?_⟩
            rw [if_pos hcl, show hh - l = 0 from by omega, show cap - l = 0 from by omega]
          · refine .inr ⟨b, sh, cap - l, c, T', z, hm, by rw [if_neg hcl, Nat.add_assoc], by omega, hb, ?_⟩
            rw [← e3]
            have : (cap - l) * sz + l * sz = cap * sz := by rw [← Nat.add_mul]; congr 1; omega
            omega
    · exact h.elim
  · rename_i s hxe
    rw [hxe] at hx
    have hv := rel_str hx
    obtain ⟨hu, h⟩ := h
    obtain ⟨hh, h, hhv⟩ := bound_run hA hi s.size h
    obtain ⟨l, h, hlv⟩ := bound_run hA lo 0 h
    obtain ⟨h1, h2, h⟩ := h
    have hb := run_sliceBounds (P := P) (w := w) false s.size s.size (lo.map a.eval) (hi.map a.eval) l hh hlv hhv h1 h2
    refine .pure hS (v := .string (s.extract l hh)) ?_ (.fz (.str _)) h
    simp [execOp, ho, Instr.sliceAt, run_underlying hu, hv, Instr.slice, hb]
  · exact h.elim

theorem out_makeFunc (hS : St B m H N w) (hA : ARel m H N w env a) {g : FuncId} {cap : Array Operand} (ho : o.op = .makeFunc (.func g) #[] cap) (h : K (.fn g (cap.toList.map (ev env))) H) : Out P o a B m H N w K := by
  refine .pure hS (v := .func (.func g) #[] (cap.map a.eval)) (by simp [execOp, ho, Instr.makeFunc]) (.fn g _ _ (by simp) fun i x v h1 h2 => ?_) h
  simp only [List.getElem?_map, Option.map_eq_some_iff] at h1
  obtain ⟨y, h3, rfl⟩ := h1
  have h4 : cap[i]? = some y := by simpa using h3
  rw [Array.getElem?_map, h4] at h2
  simp at h2; subst h2
  exact hA.ev y
end
end Go.Abs

/- The abstract machine, part H: len, append, copy, min, max; every operation. -/
set_option linter.unusedVariables false
set_option linter.unusedSimpArgs false
namespace Go.Abs

section
variable {P : Program} {o : Oper} {a : Act} {B : Base} {m : Nat → Option (Nat × Nat)} {H : Heap} {N : Nat → Prop} {w : World} {env : Env} {K : AV → Heap → Prop}

theorem run_builtin (c : Call) (b : Builtin) (hc : c.callee = .builtin b) (ho : o.op = .call c) (f : Array TypeId → TypeId → Array Value → Sem Value)
    (hb : ∀ at_ ty co args, builtin b at_ ty co args = (do pure (.value (← f at_ ty args)))) {v : Value} {w' : World}
    (hr : (f c.argTypes o.type (c.args.map a.eval)).run P w = .ok v w') : (execOp a.eval o).run P w = .ok (.value v) w' := by
  simp [execOp, ho, resolve, hc, invoke, hb, hr]

theorem out_len (hS : St B m H N w) (hA : ARel m H N w env a) {x : Operand} {t : TypeId} (ho : o.op = .call { callee := .builtin .len, args := #[x], argTypes := #[t] }) (h : alen P t (ev env x) H fun v => K v H) : Out P o a B m H N w K := by
  have hx := hA.ev x
  have go : ∀ n : Int, (Builtin.len_ #[t] o.type #[a.eval x]).run P w = .ok (goInt n) w → (execOp a.eval o).run P w = .ok (.value (.int .i64 n)) w := fun n hr =>
    run_builtin _ .len rfl ho Builtin.len_ (fun _ _ _ _ => rfl) (by simpa [goInt] using hr)
  unfold alen at h
  split at h
  · rename_i sz es hxe
    obtain ⟨⟨e, he⟩, h⟩ := h
    have hu := telem_eq he
    rw [hxe] at hx
    have hf := rel_sl hx
    generalize hv : a.eval x = v at *
    refine .pure hS (go es.length ?_) (.fz (.int _ _)) h
    cases hf with
    | sl0 _ A c => simp [Builtin.len_, run_underlying hu]
    | sl => simp [Builtin.len_, run_underlying hu]
  · rename_i hxe
    obtain ⟨⟨e, he⟩, h⟩ := h
    have hu := telem_eq he
    rw [hxe] at hx
    have hv := rel_nil hx
    exact .pure hS (go 0 (by simp [Builtin.len_, run_underlying hu, hv])) (.fz (.int _ _)) h
  · rename_i id ver off len hxe
    obtain ⟨⟨e, he⟩, h⟩ := h
    have hu := telem_eq he
    rw [hxe] at hx
    split at h
    · rename_i v T sz cs hH
      obtain ⟨rfl, h⟩ := h
      refine .pure hS (go len ?_) (.fz (.int _ _)) h
      rcases rel_ref hx hH with ⟨hl, A, hv⟩ | ⟨b, sh, cap, c, T', z, hm, hv, hcap, hb, hfit⟩
      · simp [Builtin.len_, run_underlying hu, hv, hl]
      · simp [Builtin.len_, run_underlying hu, hv]
    · exact h.elim
  · rename_i s hxe
    obtain ⟨hu, h⟩ := h
    rw [hxe] at hx
    have hv := rel_str hx
    exact .pure hS (go s.size (by simp [Builtin.len_, run_underlying hu, hv])) (.fz (.int _ _)) h
  · exact h.elim

/-- A source's cells in the machine. -/
theorem src_run (hS : St B m H N w) {sz : Nat} (hsz : sz ≠ 0) {x : AV} {v : Value} (hx : Rel m H N w x v) {K' : List AV → Nat → Prop} (h : asrc sz H x K') :
    ∃ (A : Option Addr) (n c : Nat) (cs : List AV) (vs : List Value), v = .slice A n c ∧ K' cs n ∧ vs.length = n * sz ∧ cs.length = n * sz ∧ (A = none → n = 0) ∧
      (∀ b, A = some b → ∀ j u, vs[j]? = some u → w.cell? (b.add j) = some u) ∧ ∀ (j : Nat) (y : AV) (u : Value), cs[j]? = some y → vs[j]? = some u → Rel m H N w y u := by
  unfold asrc at h
  split at h
  · have hv := rel_nil hx
    exact ⟨none, 0, 0, [], [], hv, h, by simp, by simp, fun _ => rfl, by simp, by simp⟩
  · rename_i sz' es
    obtain ⟨rfl, h⟩ := h
    have hf := rel_sl hx
    cases hf with
    | sl0 _ A c => exact ⟨A, 0, c, [], [], rfl, h, by simp, by simp, fun _ => rfl, by simp, by simp⟩
    | sl _ _ b o' c f hN hb hne hcap hs hc hr =>
      have hlen : (es.flatMap flat).length = es.length * sz' := by
        clear hr hc hcap hne h hx
        induction es with
        | nil => simp
        | cons e es ih =>
          rw [List.flatMap_cons, List.length_append, List.length_cons, Nat.add_mul, ih (fun j e he => hs (j + 1) e (by simpa using he)), hs 0 e rfl]
          omega
      have hget : ∀ (es : List AV) (hs : ∀ (j : Nat) (e : AV), es[j]? = some e → (flat e).length = sz') (k : Nat) (y : AV), (es.flatMap flat)[k]? = some y → ∃ e, es[k / sz']? = some e ∧ (flat e)[k % sz']? = some y := by
        intro es
        induction es with
        | nil => intro _ k y h; simp at h
        | cons e es ih =>
          intro hs k y hk
          have h0 := hs 0 e rfl
          rw [List.flatMap_cons, List.getElem?_append] at hk
          split at hk
          · rename_i hlt
            refine ⟨e, ?_, ?_⟩
            · rw [Nat.div_eq_of_lt (by omega)]; rfl
            · rw [Nat.mod_eq_of_lt (by omega)]; exact hk
          · rename_i hge
            obtain ⟨e', h1, h2⟩ := ih (fun j e he => hs (j + 1) e (by simpa using he)) (k - (flat e).length) y hk
            rw [h0] at h1 h2 hge
            have hk' : k = (k - sz') + sz' := by omega
            refine ⟨e', ?_, ?_⟩
            · rw [hk', Nat.add_div_right _ (by omega)]; simpa using h1
            · rw [hk', Nat.add_mod_right]; exact h2
      refine ⟨_, _, c, es.flatMap flat, (List.range (es.length * sz')).map (fun k => f (k / sz') (k % sz')), rfl, h, by simp, hlen, by simp, fun b' hb' j u hj => ?_, fun j y u h1 h2 => ?_⟩
      · injection hb' with hb'; subst hb'
        simp only [List.getElem?_map, Option.map_eq_some_iff] at hj
        obtain ⟨k, hk, rfl⟩ := hj
        obtain ⟨hlt, hk⟩ := List.getElem?_eq_some_iff.1 hk
        simp at hk hlt; subst hk
        have hjlt : j < (es.flatMap flat).length := by omega
        obtain ⟨e, h1, h2⟩ := hget es hs j _ (List.getElem?_eq_getElem hjlt)
        have := hc _ e _ _ h1 h2
        rw [addr_add, ← this]
        congr 2
        have := Nat.div_add_mod j sz'
        rw [Nat.mul_comm (j / sz') sz', this]
      · obtain ⟨e, h3, h4⟩ := hget es hs j y h1
        have hlt := (List.getElem?_eq_some_iff.1 h2).1
        simp at hlt
        simp [hlt] at h2
        subst h2
        exact .fz (hr _ e _ y h3 h4)
  · rename_i id ver off len
    split at h
    · rename_i v' T sz' cs hH
      obtain ⟨rfl, rfl, hle, h⟩ := h
      rcases rel_ref hx hH with ⟨hl, A, hv⟩ | ⟨b, sh, cap, c, T', z, hm, hv, hcap, hb, hfit⟩
      · subst hl
        simp at h
        exact ⟨A, 0, 0, [], [], hv, h, by simp, by simp, fun _ => rfl, by simp, by simp⟩
      · obtain ⟨_, _, c', h1, h2, h3⟩ := hS.own id v' T sz' cs b sh hH hm
        refine ⟨_, len, cap, (cs.drop off).take (len * sz'), (c'.toList.drop (sh + off)).take (len * sz'), hv, h, by simp; omega, by simp; omega, by simp, fun b' hb' j u hj => ?_, fun j y u h4 h5 => ?_⟩
        · injection hb' with hb'; subst hb'
          simp only [List.getElem?_take, List.getElem?_drop] at hj
          split at hj
          · rw [addr_add]; simp [World.cell?, h1]; simpa [Nat.add_assoc] using hj
          · cases hj
        · simp only [List.getElem?_take, List.getElem?_drop] at h4 h5
          split at h4
          · rename_i hj
            rw [if_pos hj] at h5
            exact h3 (off + j) y u h4 (by rw [← Nat.add_assoc]; simpa using h5)
          · cases h4
    · exact h.elim
  · exact h.elim

theorem run_first (size n : Nat) (A : Option Addr) (c : Nat) (vs : List Value) (hl : vs.length = n * size) (h0 : A = none → n = 0) (h : ∀ b, A = some b → ∀ j u, vs[j]? = some u → w.cell? (b.add j) = some u) :
    (Builtin.firstCells size n (.slice A n c)).run P w = .ok vs.toArray w := by
  cases A with
  | none =>
    have := h0 rfl
    subst this
    have : vs = [] := List.eq_nil_of_length_eq_zero (by simpa using hl)
    subst this
    simp [Builtin.firstCells]
  | some b => exact run_firstCells_some (P := P) w size n b n c vs hl (h b rfl)

theorem run_append_fit0 {t ty e : TypeId} {i : TypeInfo} (ht : P.underlying t = some (.slice e)) (hi : P.info? e = some i) (s A : Option Addr) (c : Nat) :
    (Builtin.append_ #[t, t] ty #[.slice s 0 0, .slice A 0 c]).run P w = .ok (.slice s 0 0) w := by
  have hf : (Builtin.firstCells i.size 0 (.slice A 0 c)).run P w = .ok #[] w := by
    have := run_first (P := P) (w := w) i.size 0 A c [] (by simp) (fun _ => rfl) (fun b _ j u h => by simp at h)
    simpa using this
  cases s <;> simp [Builtin.append_, run_underlying ht, sizeOf, typeInfo, hi, Builtin.lenOf, hf, storeCells]

theorem run_append_fit {t ty e : TypeId} {i : TypeInfo} (ht : P.underlying t = some (.slice e)) (hi : P.info? e = some i)
    (g o' sLen sCap : Nat) (cur : Array Value) (T : TypeId) (hg : w.heap[g]? = some (.cells cur T (0, 0))) (A : Option Addr) (n c : Nat) (vs : List Value)
    (hl : vs.length = n * i.size) (h0 : A = none → n = 0) (h : ∀ b, A = some b → ∀ j u, vs[j]? = some u → w.cell? (b.add j) = some u) (h1 : ∀ u ∈ vs, u.oneCell' = true)
    (hroom : sLen + n ≤ sCap) (hfit : o' + sLen * i.size + vs.length ≤ cur.size) :
    (Builtin.append_ #[t, t] ty #[.slice (some ⟨g, o', none⟩) sLen sCap, .slice A n c]).run P w =
      .ok (.slice (some ⟨g, o', none⟩) (sLen + n) sCap) (w.setRow g (cur.toList.take (o' + sLen * i.size) ++ vs ++ cur.toList.drop (o' + sLen * i.size + vs.length)).toArray) := by
  have hf := run_first (P := P) (w := w) i.size n A c vs hl h0 h
  have hst := run_storeCells_at P g (o' + sLen * i.size) T vs 0 cur w hg (by simpa using hfit) h1
  simp only [Nat.add_zero] at hst
  simp [Builtin.append_, run_underlying ht, sizeOf, typeInfo, hi, Builtin.lenOf, hroom, hf, addr_add, hst]

theorem run_append_more {t ty e : TypeId} {i : TypeInfo} {z : Value} (ht : P.underlying t = some (.slice e)) (hi : P.info? e = some i) (hz : i.zero = some z)
    (S : Option Addr) (sLen sCap : Nat) (os : List Value) (hlo : os.length = sLen * i.size) (hs0 : S = none → sLen = 0) (hso : ∀ b, S = some b → ∀ j u, os[j]? = some u → w.cell? (b.add j) = some u)
    (A : Option Addr) (n c : Nat) (vs : List Value) (hl : vs.length = n * i.size) (h0 : A = none → n = 0) (h : ∀ b, A = some b → ∀ j u, vs[j]? = some u → w.cell? (b.add j) = some u)
    (hg : sCap < sLen + n) (hby : 0 < i.bytes) (hfit : (sLen + n) * i.bytes ≤ 140737488355328) :
    (Builtin.append_ #[t, t] ty #[.slice S sLen sCap, .slice A n c]).run P w =
      .ok (.slice (some ⟨w.heap.size, 0, none⟩) (sLen + n) (grownCap w (sLen + n) sCap e))
        (w.drew.alloc (.cells (os.toArray ++ vs.toArray ++ Builtin.zeroCells z.cells (grownCap w (sLen + n) sCap e - (sLen + n))) e)) := by
  have hsm : sLen + n ≤ (sLen + n) * i.bytes := Nat.le_mul_of_pos_right _ hby
  have hn : ¬ (sLen + n ≤ sCap) := by omega
  have h63' : ¬ (9223372036854775807 < ((sLen : Int) + (n : Int))) := by omega
  have hfit' := growslice_fits hg hfit
  have h48' : ¬ (281474976710656 < Builtin.nextslicecap (sLen + n) sCap * i.bytes) := by omega
  have hf := run_first (P := P) (w := w.drew) i.size n A c vs hl h0 (by simpa using h)
  have hfo := run_first (P := P) (w := w.drew) i.size sLen S sCap os hlo hs0 (by simpa using hso)
  simp [Builtin.append_, run_underlying ht, sizeOf, typeInfo, zeroValue, hi, hz, Builtin.lenOf, hn, h63', h48', Question.forced, hf, hfo, newRow, grownCap]
  congr 2
  apply Array.ext'
  simp [List.append_assoc]
end
end Go.Abs

/- The abstract machine, part I: append; every operation. -/
set_option linter.unusedVariables false
set_option linter.unusedSimpArgs false
namespace Go.Abs

theorem upd_self' {α : Type} (f : Nat → α) (t : Nat) : upd f t (f t) = f := by
  funext j; simp only [upd]; split
  · rename_i h; rw [h]
  · rfl
section
variable {P : Program} {o : Oper} {a : Act} {B : Base} {m : Nat → Option (Nat × Nat)} {H : Heap} {N : Nat → Prop} {w : World} {env : Env} {K : AV → Heap → Prop}

theorem Ch.trans {m1 m2 m3 : Nat → Option (Nat × Nat)} {H1 H2 H3 : Heap} {N1 N2 N3 : Nat → Prop} {w1 w2 w3 : World} (h : Ch m1 H1 N1 w1 m2 H2 N2 w2) (k : Ch m2 H2 N2 w2 m3 H3 N3 w3) : Ch m1 H1 N1 w1 m3 H3 N3 w3 := by
  refine ⟨fun a v hf => k.fz _ _ (h.fz _ _ hf), fun id => Nat.le_trans (h.ver id) (k.ver id), fun id ver T sz cs hl => ?_⟩
  rcases k.live id ver T sz cs hl with h1 | ⟨⟨T0, cs0, h1⟩, h2, h3⟩
  · exact .inl (Nat.lt_of_le_of_lt (h.ver id) h1)
  · rcases h.live id ver T0 sz cs0 h1 with h4 | ⟨h4, h5, h6⟩
    · exact .inl h4
    · refine .inr ⟨h4, h2.trans h5, fun b sh hb c T1 z hc => ?_⟩
      obtain ⟨c', T1', z', e1, e2⟩ := h6 b sh hb c T1 z hc
      obtain ⟨c2, T2, z2, e3, e4⟩ := h3 b sh (h5 ▸ hb) c' T1' z' e1
      exact ⟨c2, T2, z2, e3, e4.trans e2⟩

/-- A new block behind a draw, in the place of an old one perhaps. -/
theorem St.grow (hS : St B m H N w) (d : Nat) (e : TypeId) (sz n cap : Nat) (news : List AV) (vs : List Value) (zc : Array Value) (hlen : vs.length = news.length) (hn : news.length = n * sz)
    (hr : ∀ (j : Nat) (y : AV) (u : Value), news[j]? = some y → vs[j]? = some u → Rel m H N w y u) (hcap : n ≤ cap) (hzc : zc.size = (cap - n) * sz) :
    ∃ m' N', (St B m' (upd H d (.cells ((H d).ver + 1) e sz news)) N' (w.drew.alloc (.cells (vs.toArray ++ zc) e)) ∧ Ch m H N w m' (upd H d (.cells ((H d).ver + 1) e sz news)) N' (w.drew.alloc (.cells (vs.toArray ++ zc) e))) ∧
      Rel m' (upd H d (.cells ((H d).ver + 1) e sz news)) N' (w.drew.alloc (.cells (vs.toArray ++ zc) e)) (.ref d ((H d).ver + 1) 0 n) (.slice (some ⟨w.heap.size, 0, none⟩) n cap) := by
  obtain ⟨hS1, hC1⟩ := hS.drew
  have key := hS1.alloc d e sz news (vs.toArray ++ zc) (by simp; omega) (fun j x v h1 h2 => by
    have hj := (List.getElem?_eq_some_iff.1 h1).1
    rw [Array.getElem?_append_left (by simp; omega)] at h2
    exact (hr j x v h1 (by simpa using h2)).ch hC1)
  refine ⟨_, _, ⟨key.1, hC1.trans key.2⟩, .ref _ _ _ _ _ rfl (by simp [Blk.ver]) (fun T sz2 cs2 hc => ?_)⟩
  rw [upd_same] at hc; injection hc with _ e2 e3 e4
  refine .inr ⟨w.heap.size, 0, cap, _, e, (0, 0), upd_same .., rfl, hcap, heap_alloc_new w.drew _, ?_⟩
  have : n * sz + (cap - n) * sz = cap * sz := by rw [← Nat.add_mul]; congr 1; omega
  simp [hzc]
  rw [← e3]
  omega

theorem out_append (hS : St B m H N w) (hA : ARel m H N w env a) {s x : Operand} {t : TypeId} {d : Nat} (ho : o.op = .call { callee := .builtin .append, args := #[s, x], argTypes := #[t, t] })
    (h : aappend P t (ev env s) (ev env x) d H K) : Out P o a B m H N w K := by
  have hs := hA.ev s
  have hx := hA.ev x
  have go : ∀ v w', (Builtin.append_ #[t, t] o.type #[a.eval s, a.eval x]).run P w = .ok v w' → (execOp a.eval o).run P w = .ok (.value v) w' := fun v w' hr =>
    run_builtin _ .append rfl ho Builtin.append_ (fun _ _ _ _ => rfl) (by simpa using hr)
  unfold aappend at h
  split at h
  · rename_i e he
    have hu := telem_eq he
    split at h
    · rename_i sz by_ zs hsz hby hz
      obtain ⟨hsz0, hby0, hzl, h⟩ := h
      obtain ⟨i, z, hi, hz0, hzs⟩ := tzero_eq hz
      have hisz : i.size = sz := by simpa [tsz, hi] using hsz
      have hiby : i.bytes = by_ := by simpa [tby, hi] using hby
      subst hisz
      subst hiby
      have hzc : z.cells.size = i.size := by rw [← hzl, hzs]; simp
      obtain ⟨A, n, c, news, vs, hv, h, hvl, hnl, hA0, hcell, hrel⟩ := src_run hS hsz0 hx h
      have one : news.all AV.scalar = true → ∀ u ∈ vs, u.oneCell' = true := fun hall u hu => by
        obtain ⟨j, hj, rfl⟩ := List.getElem_of_mem hu
        have hj' : j < news.length := by omega
        exact (hrel j news[j] vs[j] (by simp) (by simp)).one (List.all_eq_true.1 hall _ (List.getElem_mem _))
      have zsize : ∀ q, (Builtin.zeroCells z.cells q).size = q * i.size := fun q => by rw [size_zeroCells, hzc]
      split at h
      · rename_i id ver off len hse
        rw [hse] at hs
        split at h
        · rename_i ver' T sz' cs hH
          obtain ⟨rfl, rfl, rfl, hle, hfit, hall, h⟩ := h
          have hve : (H id).ver + 1 = ver' + 1 := by rw [hH]; rfl
          -- a larger block
          have grown : ∀ (S : Option Addr) (sCap : Nat) (os : List Value), os.length = len * i.size → (S = none → len = 0) → (∀ b, S = some b → ∀ j u, os[j]? = some u → w.cell? (b.add j) = some u) →
              (∀ (j : Nat) (y : AV) (u : Value), ((cs.drop off).take (len * i.size))[j]? = some y → os[j]? = some u → Rel m H N w y u) → a.eval s = .slice S len sCap → sCap < len + n → Out P o a B m H N w K := by
            intro S sCap os hol hS0 hScell hSrel hsv hlt
            have hrun := run_append_more (P := P) (w := w) (ty := o.type) hu hi hz0 S len sCap os hol hS0 hScell A n c vs hvl hA0 hcell hlt (by omega) hfit
            have hcl : ((cs.drop off).take (len * i.size)).length = len * i.size := by simp; omega
            obtain ⟨m', N', hSt, hR⟩ := hS.grow id T i.size (len + n) (grownCap w (len + n) sCap T) ((cs.drop off).take (len * i.size) ++ news) (os ++ vs) (Builtin.zeroCells z.cells (grownCap w (len + n) sCap T - (len + n)))
              (by simp; omega) (by rw [List.length_append, hcl, hnl, Nat.add_mul]) (fun j y u h1 h2 => by
                rw [List.getElem?_append, hcl] at h1
                rw [List.getElem?_append, hol] at h2
                split at h1
                · rename_i hj; rw [if_pos hj] at h2; exact hSrel j y u h1 h2
                · rename_i hj; rw [if_neg hj] at h2; exact hrel _ y u h1 h2) (grownCap_ge ..) (zsize _)
            rw [hve] at hSt hR
            refine .value (go _ _ (by rw [hsv, hv]; simpa using hrun)) (m' := m') (N' := N') ?_ ?_ h
            · simpa using hSt
            · simpa using hR
          rcases rel_ref hs hH with ⟨hl, S, hsv⟩ | ⟨b, sh, cap, c', T', z', hm, hsv, hcap, hb, hfit'⟩
          · subst hl
            by_cases hn0 : n = 0
            · subst hn0
              have hnews : news = [] := List.eq_nil_of_length_eq_zero (by simpa using hnl)
              subst hnews
              have hrun := run_append_fit0 (P := P) (w := w) (ty := o.type) hu hi S A c
              simp only [Nat.zero_mul, List.take_zero, List.append_nil, Nat.add_zero] at h
              cases hm : m id with
              | none =>
                have key := hS.virtual id T i.size
                rw [hve] at key
                refine .value (go _ _ (by rw [hsv, hv]; exact hrun)) key (.ref _ _ _ _ _ rfl (by simp [Blk.ver]) (fun _ _ _ _ => .inl ⟨rfl, S, rfl⟩)) h
              | some p =>
                obtain ⟨b, sh⟩ := p
                obtain ⟨_, _, c0, h1, h2, h3⟩ := hS.own id ver' T i.size cs b sh hH hm
                have key := hS.row hH hm h1 (ver' + 1) sh (.inr (by omega)) [] c0 rfl (by simp; omega) (fun j x v hx => by simp at hx)
                rw [setRow_self w b c0 T (0, 0) h1] at key
                refine .value (go _ _ (by rw [hsv, hv]; exact hrun)) key (.ref _ _ _ _ _ rfl (by simp [Blk.ver]) (fun _ _ _ _ => .inl ⟨rfl, S, rfl⟩)) h
            · exact grown S 0 [] (by simp) (fun _ => rfl) (fun _ _ j u hu => by simp at hu) (fun j y u h1 => by simp at h1) hsv (by omega)
          · obtain ⟨_, _, c0, h1, h2, h3⟩ := hS.own id ver' T i.size cs b sh hH hm
            rw [h1] at hb; injection hb with hb; injection hb with e1 e2 e3; subst e1
            by_cases hroom : len + n ≤ cap
            · have hmul : (len + n) * i.size ≤ cap * i.size := Nat.mul_le_mul_right _ hroom
              rw [Nat.add_mul] at hmul
              have hrun := run_append_fit (P := P) (w := w) (ty := o.type) hu hi b (sh + off) len cap c0 T h1 A n c vs hvl hA0 hcell (one hall) hroom (by omega)
              have key := hS.row hH hm h1 (ver' + 1) (sh + off) (.inr (by omega)) ((cs.drop off).take (len * i.size) ++ news)
                ((c0.toList.take (sh + off + len * i.size)) ++ vs ++ c0.toList.drop (sh + off + len * i.size + vs.length)).toArray (by simp; omega) (by simp; omega) (fun j y u h4 h5 => by
                  have hcl : ((cs.drop off).take (len * i.size)).length = len * i.size := by simp; omega
                  rw [List.getElem?_append, hcl] at h4
                  simp only [List.getElem?_toArray, List.append_assoc, List.getElem?_append, List.length_take, Array.length_toList] at h5
                  have hmin : min (sh + off + len * i.size) c0.size = sh + off + len * i.size := by omega
                  rw [hmin] at h5
                  split at h4
                  · rename_i hj
                    rw [if_pos (by omega), List.getElem?_take, if_pos (by omega)] at h5
                    simp only [List.getElem?_take, List.getElem?_drop, if_pos hj] at h4
                    exact h3 (off + j) y u h4 (by rw [← Nat.add_assoc]; simpa using h5)
                  · rename_i hj
                    have hj2 := (List.getElem?_eq_some_iff.1 h4).1
                    rw [if_neg (by omega), if_pos (by omega)] at h5
                    exact hrel _ y u h4 (by rw [show sh + off + j - (sh + off + len * i.size) = j - len * i.size from by omega] at h5; exact h5))
              refine .value (go _ _ (by rw [hsv, hv]; exact hrun)) key (.ref _ _ _ _ _ rfl (by simp [Blk.ver]) (fun T2 sz2 cs2 hc => ?_)) h
              rw [upd_same] at hc; injection hc with _ q2 q3 q4
              refine .inr ⟨b, sh + off, cap, _, T, (0, 0), upd_same .., rfl, hroom, setRow_heap w b c0 _ T _ h1, ?_⟩
              rw [← q3]
              simp
              omega
            · refine grown _ cap ((c0.toList.drop (sh + off)).take (len * i.size)) (by
                have : len * i.size ≤ cap * i.size := Nat.mul_le_mul_right _ hcap
                simp; omega) (fun h => by cases h) (fun b' hb' j u hj => ?_) (fun j y u h4 h5 => ?_) hsv (by omega)
              · injection hb' with hb'; subst hb'
                simp only [List.getElem?_take, List.getElem?_drop] at hj
                split at hj
                · rw [addr_add]; simp [World.cell?, h1]; simpa [Nat.add_assoc] using hj
                · cases hj
              · simp only [List.getElem?_take, List.getElem?_drop] at h4 h5
                split at h4
                · rename_i hj
                  rw [if_pos hj] at h5
                  exact h3 (off + j) y u h4 (by rw [← Nat.add_assoc]; simpa using h5)
                · cases h4
        · exact h.elim
      · rename_i hse
        rw [hse] at hs
        obtain ⟨hfit, hall, h⟩ := h
        have hsv := rel_nil hs
        by_cases hn0 : n = 0
        · subst hn0
          have hnews : news = [] := List.eq_nil_of_length_eq_zero (by simpa using hnl)
          subst hnews
          have hrun := run_append_fit0 (P := P) (w := w) (ty := o.type) hu hi none A c
          exact .value (go _ _ (by rw [hsv, hv]; exact hrun)) (hS.virtual d e i.size) (.ref _ _ _ _ _ rfl (by simp [Blk.ver]) (fun _ _ _ _ => .inl ⟨rfl, none, rfl⟩)) h
        · have hrun := run_append_more (P := P) (w := w) (ty := o.type) hu hi hz0 none 0 0 [] (by simp) (fun _ => rfl) (fun _ h => by cases h) A n c vs hvl hA0 hcell (by omega) (by omega) (by rw [Nat.zero_add]; exact hfit)
          obtain ⟨m', N', hSt, hR⟩ := hS.grow d e i.size n (grownCap w (0 + n) 0 e) news vs (Builtin.zeroCells z.cells (grownCap w (0 + n) 0 e - (0 + n)))
            (by omega) hnl hrel (by have := grownCap_ge w (0 + n) 0 e; omega) (by rw [zsize]; simp)
          refine .value (go _ _ (by rw [hsv, hv]; simpa using hrun)) (m' := m') (N' := N') ?_ ?_ h
          · simpa using hSt
          · simpa using hR
      · exact h.elim
    · exact h.elim
  · exact h.elim
/-- copy(s, x): the first cells of one row laid over another of ours. -/
def acopy (P : Program) (t : TypeId) (s x : AV) (H : Heap) (K : AV → Heap → Prop) : Prop :=
  match telem P t with
  | some e => tsz P e = some 1 ∧ asrc 1 H x fun news n => (match s with
      | .ref id ver off len => (match H id with
        | .cells v T sz cs => v = ver ∧ T = e ∧ sz = 1 ∧ off + len ≤ cs.length ∧ news.all AV.scalar = true ∧
            K (.int .i64 ((min n len : Nat) : Int)) (upd H id (.cells ver e 1 (cs.take off ++ news.take (min n len) ++ cs.drop (off + min n len))))
        | .gone _ => False)
      | _ => False)
  | none => False
theorem out_copy (hS : St B m H N w) (hA : ARel m H N w env a) {s x : Operand} {t t' : TypeId} (ho : o.op = .call { callee := .builtin .copy, args := #[s, x], argTypes := #[t, t'] })
    (h : acopy P t (ev env s) (ev env x) H K) : Out P o a B m H N w K := by
  have hs := hA.ev s
  have hx := hA.ev x
  have go : ∀ v w', (Builtin.copy_ #[t, t'] o.type #[a.eval s, a.eval x]).run P w = .ok v w' → (execOp a.eval o).run P w = .ok (.value v) w' := fun v w' hr =>
    run_builtin _ .copy rfl ho Builtin.copy_ (fun _ _ _ _ => rfl) (by simpa using hr)
  unfold acopy at h
  split at h
  · rename_i e he
    have hu := telem_eq he
    obtain ⟨hsz, h⟩ := h
    have hsz1 : (P.info? e).map (·.size) = some 1 := by simpa [tsz] using hsz
    obtain ⟨A, n, c, news, vs, hv, h, hvl, hnl, hA0, hcell, hrel⟩ := src_run hS (by omega) hx h
    simp only [Nat.mul_one] at hvl hnl
    have one : news.all AV.scalar = true → ∀ u ∈ vs, u.oneCell' = true := fun hall u hu => by
      obtain ⟨j, hj, rfl⟩ := List.getElem_of_mem hu
      have hj' : j < news.length := by omega
      exact (hrel j news[j] vs[j] (by simp) (by simp)).one (List.all_eq_true.1 hall _ (List.getElem_mem _))
    split at h
    · rename_i id ver off len hse
      rw [hse] at hs
      split at h
      · rename_i ver' T sz' cs hH
        obtain ⟨rfl, rfl, rfl, hle, hall, h⟩ := h
        -- nothing goes over
        have none_ : ∀ (d : Option Addr) (dCap : Nat), a.eval s = .slice d len dCap → min n len = 0 → Out P o a B m H N w K := by
          intro d dCap hd h0
          rw [h0] at h
          simp only [Nat.add_zero, List.take_zero, List.append_nil, List.take_append_drop] at h
          rw [← hH, upd_self'] at h
          exact .pure hS (go _ _ (by rw [hd, hv]; exact run_copy_none (P := P) w t t' o.type T d A len dCap n c hu hsz1 h0)) (.fz (.int .i64 0)) h
        rcases rel_ref hs hH with ⟨hl, D, hd⟩ | ⟨b, sh, cap, c0', T', z', hm, hd, hcap, hb, hfit⟩
        · subst hl
          exact none_ D 0 hd (by omega)
        · by_cases h0 : min n len = 0
          · exact none_ _ cap hd h0
          · obtain ⟨_, _, c0, h1, h2, h3⟩ := hS.own id ver' T 1 cs b sh hH hm
            cases A with
            | none => exact absurd (by have := hA0 rfl; omega) h0
            | some ad =>
              have hlen : (vs.take (min n len)).length = min n len := by rw [List.length_take]; omega
              have hrun := run_copy_row (P := P) w t t' o.type T b (sh + off) len cap ad n c c0 T (vs.take (min n len)) hu hsz1 h1 hlen (fun j v hj => by
                rw [List.getElem?_take] at hj
                split at hj
                · exact hcell ad rfl j v hj
                · cases hj) (by rw [hlen]; omega) (fun v hv => one hall v (List.mem_of_mem_take hv))
              rw [hlen] at hrun
              have hnl' : (news.take (min n len)).length = min n len := by rw [List.length_take]; omega
              have key := hS.row hH hm h1 ver' sh (.inl ⟨rfl, rfl⟩) (cs.take off ++ news.take (min n len) ++ cs.drop (off + min n len)) ((c0.toList.take (sh + off) ++ vs.take (min n len) ++ c0.toList.drop (sh + off + min n len)).toArray)
                (by simp; omega) (by simp; omega) (fun j y u h4 h5 => by
                  simp only [List.getElem?_toArray] at h5
                  by_cases hj1 : j < off
                  · rw [List.append_assoc, List.getElem?_append_left (by rw [List.length_take]; omega), List.getElem?_take_of_lt hj1] at h4
                    rw [List.append_assoc, List.getElem?_append_left (by rw [List.length_take, Array.length_toList]; omega), List.getElem?_take_of_lt (by omega)] at h5
                    exact h3 j y u h4 (by simpa using h5)
                  · by_cases hj2 : j < off + min n len
                    · rw [List.append_assoc, List.getElem?_append_right (by rw [List.length_take]; omega), List.length_take, Nat.min_eq_left (show off ≤ cs.length by omega), List.getElem?_append_left (by rw [hnl']; omega), List.getElem?_take_of_lt (by omega)] at h4
                      rw [List.append_assoc, List.getElem?_append_right (by rw [List.length_take, Array.length_toList]; omega), List.length_take, Array.length_toList, Nat.min_eq_left (show sh + off ≤ c0.size by omega), List.getElem?_append_left (by rw [hlen]; omega), List.getElem?_take_of_lt (by omega)] at h5
                      refine hrel (j - off) y u h4 ?_
                      rw [show j - off = sh + j - (sh + off) by omega]; exact h5
                    · rw [List.getElem?_append_right (by rw [List.length_append, List.length_take]; omega), List.length_append, List.length_take, hnl', Nat.min_eq_left (show off ≤ cs.length by omega), List.getElem?_drop] at h4
                      rw [List.getElem?_append_right (by rw [List.length_append, List.length_take, Array.length_toList]; omega), List.length_append, List.length_take, Array.length_toList, hlen, Nat.min_eq_left (show sh + off ≤ c0.size by omega), List.getElem?_drop] at h5
                      refine h3 j y u ?_ ?_
                      · rw [show j = off + min n len + (j - (off + min n len)) by omega]; exact h4
                      · have e1 : sh + off + min n len + (sh + j - (sh + off + min n len)) = sh + j := by omega
                        rw [e1] at h5; simpa using h5)
              rw [show upd m id (some (b, sh)) = m from by rw [← hm, upd_self']] at key
              refine .value (go _ _ (by rw [hd, hv]; exact hrun)) key (.fz (.int .i64 _)) h
      · exact h.elim
    · exact h.elim
  · exact h.elim
end
end Go.Abs
