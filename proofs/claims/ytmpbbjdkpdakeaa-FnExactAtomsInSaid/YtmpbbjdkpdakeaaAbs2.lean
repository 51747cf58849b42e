/- Texts of ours, joined: AbsJ AbsN AbsO AbsP AbsK AbsL AbsM. -/
import Derived.Test.YtmpbbjdkpdakeaaAbs1
import Derived.Orders
import Derived.Deep.LoopGhost
/- The abstract machine, part J: every operation; regions in the text's order; code. -/
set_option linter.unusedVariables false
set_option linter.unusedSimpArgs false
namespace Go.Abs

/-! ### 1. Calls -/
def enters (P : Program) (g : FuncId) : Bool := match P.funcs[g]? with | some fn => !(fn.name == "runtime.NumGoroutine") && fn.body.isSome | none => false
/-- Called with these arguments in a state with this heap, function g returns, with a value and a heap of which 'K' holds. -/
def ACall (P : Program) (g : FuncId) (args : List AV) (H : Heap) (K : AV → Heap → Prop) : Prop :=
  enters P g = true ∧ ∀ (B : Base) (m : Nat → Option (Nat × Nat)) (N : Nat → Prop) (w : World) (vs : Array Value), St B m H N w → vs.size = args.length →
    (∀ (i : Nat) (x : AV) (v : Value), args[i]? = some x → vs[i]? = some v → Rel m H N w x v) →
    Calls P g vs w (fun e w' => ∃ v m' H' N' x, e = .returned v ∧ K x H' ∧ St B m' H' N' w' ∧ Ch m H N w m' H' N' w' ∧ Rel m' H' N' w' x v)

def abuiltin (P : Program) (b : Builtin) (args : List AV) (ts : List TypeId) (d : Nat) (H : Heap) (K : AV → Heap → Prop) : Prop :=
  match b, args, ts with
  | .len, [x], [t] => alen P t x H fun v => K v H
  | .append, [s, x], [t, t'] => t = t' ∧ aappend P t s x d H K
  | .min, [x, y], _ => amm false x y fun v => K v H
  | .max, [x, y], _ => amm true x y fun v => K v H
  | .copy, [s, x], [t, _] => acopy P t s x H K
  | _, _, _ => False
def acall (P : Program) (c : Call) (ev : Operand → AV) (d : Nat) (H : Heap) (K : AV → Heap → Prop) : Prop :=
  match c.callee with
  | .builtin b => abuiltin P b (c.args.toList.map ev) c.argTypes.toList d H K
  | .value f => (match ev f with | .fn g caps => ACall P g (c.args.toList.map ev ++ caps) H K | _ => False)
  | _ => False
def aop (P : Program) (op : Op) (d : Nat) (ev : Operand → AV) (H : Heap) (K : AV → Heap → Prop) : Prop :=
  match op with
  | .move x => K (ev x) H
  | .assign x => K (ev x) H
  | .pick c x y => apick (ev c) (ev x) (ev y) fun v => K v H
  | .alloc t => aalloc P t d H K
  | .box t x => abox t (ev x) d H K
  | .build t ps => abuild P t (ps.toList.map fun p => (p.1, ev p.2)) fun v => K v H
  | .buildSlice t n ps => abuildSlice P t n (ps.toList.map fun p => (p.1, ev p.2)) d H K
  | .load t x => aload P t (ev x) H fun v => K v H
  | .store t x y => astore P t (ev x) (ev y) H (K .dead)
  | .nilCheck x => anil (ev x) H fun v => K v H
  | .binOp op t x y _ => abin P op t (ev x) (ev y) H fun v => K v H
  | .unOp op _ x => aun op (ev x) fun v => K v H
  | .convert s t x => aconv P s t (ev x) fun v => K v H
  | .makeFunc (.func g) first cap => first = #[] ∧ K (.fn g (cap.toList.map ev)) H
  | .makeSlice t l c => amake P t (ev l) (ev c) d H K
  | .slice t x lo hi none => aslice P t (ev x) (lo.map ev) (hi.map ev) H fun v => K v H
  | .fieldAddr t x i => afldAddr P t (ev x) i H fun v => K v H
  | .field t x i => afld P t (ev x) i fun v => K v H
  | .indexAddr t x i => aidxAddr P t (ev x) (ev i) H fun v => K v H
  | .index t x i => aindex P t (ev x) (ev i) fun v => K v H
  | .extract x i => aextract (ev x) i fun v => K v H
  | .call c => acall P c ev d H K
  | _ => False

section
variable {P : Program} {o : Oper} {a : Act} {B : Base} {m : Nat → Option (Nat × Nat)} {H : Heap} {N : Nat → Prop} {w : World} {env : Env} {K : AV → Heap → Prop}

theorem out_mm (hS : St B m H N w) (hA : ARel m H N w env a) {mx : Bool} {x y : Operand} {ts : Array TypeId} (ho : o.op = .call { callee := .builtin (if mx then .max else .min), args := #[x, y], argTypes := ts })
    (h : amm mx (ev env x) (ev env y) fun v => K v H) : Out P o a B m H N w K := by
  unfold amm at h
  split at h
  · rename_i k n k' n' hxe hye
    obtain ⟨rfl, h⟩ := h
    have hvx := rel_int (hxe ▸ hA.ev x)
    have hvy := rel_int (hye ▸ hA.ev y)
    cases mx
    · refine .pure hS (run_builtin _ .min rfl ho Builtin.min_ (fun _ _ _ _ => rfl) (v := .int k (if n' < n then n' else n)) ?_) (.fz (.int _ _)) h
      simp [Builtin.min_, hvx, hvy, Builtin.min2, List.foldlM]
    · refine .pure hS (run_builtin _ .max rfl ho Builtin.max_ (fun _ _ _ _ => rfl) (v := .int k (if n < n' then n' else n)) ?_) (.fz (.int _ _)) h
      simp [Builtin.max_, hvx, hvy, Builtin.max2, List.foldlM]
  · exact h.elim

theorem arr1 {α : Type} {a : Array α} {x : α} (h : a.toList = [x]) : a = #[x] := by
  apply Array.ext'; simpa using h
theorem arr2 {α : Type} {a : Array α} {x y : α} (h : a.toList = [x, y]) : a = #[x, y] := by
  apply Array.ext'; simpa using h

theorem map1 {α β : Type} {f : α → β} {l : List α} {y : β} (h : l.map f = [y]) : ∃ x, l = [x] ∧ f x = y := by
  cases l with
  | nil => simp at h
  | cons x l => cases l with
    | nil => simp at h; exact ⟨x, rfl, h⟩
    | cons => simp at h
theorem map2 {α β : Type} {f : α → β} {l : List α} {y z : β} (h : l.map f = [y, z]) : ∃ x x', l = [x, x'] ∧ f x = y ∧ f x' = z := by
  cases l with
  | nil => simp at h
  | cons x l =>
    simp only [List.map_cons, List.cons.injEq] at h
    obtain ⟨x', h1, h2⟩ := map1 h.2
    exact ⟨x, x', by rw [h1], h.1, h2⟩

theorem out_call (hS : St B m H N w) (hA : ARel m H N w env a) {c : Call} {f : Operand} (hc : c.callee = .value f) (ho : o.op = .call c) {g : FuncId} {caps : List AV} (hf : ev env f = .fn g caps)
    (h : ACall P g (c.args.toList.map (ev env) ++ caps) H K) : Out P o a B m H N w K := by
  obtain ⟨he, h⟩ := h
  intro next Q hn
  have hfv := hA.ev f
  rw [hf] at hfv
  obtain ⟨vs, hv, hsz, hrel⟩ := rel_fn hfv
  have hrun : (execOp a.eval o).run P w = .ok (.enter g (c.args.map a.eval ++ vs)) w := by
    unfold enters at he
    split at he
    · rename_i fn hfn
      simp only [Bool.and_eq_true, Bool.not_eq_true'] at he
      have h1 : ¬ fn.name = "runtime.NumGoroutine" := by simpa using he.1
      have h2 : ¬ fn.body = none := by intro e; simp [e] at he
      simp [execOp, ho, resolve, hc, hv, Deferred.ofValue, invoke, callFunc, hfn, h1, h2]
    · cases he
  unfold Oper.wp
  rw [hrun]
  simp only [Oper.upon]
  refine (h B m N w (c.args.map a.eval ++ vs) hS (by simp [hsz]) (fun i x v h1 h2 => ?_)).mono fun e w' => ?_
  · rw [List.getElem?_append] at h1
    rw [Array.getElem?_append] at h2
    simp only [List.length_map, Array.length_toList, Array.size_map] at h1 h2
    split at h1
    · rename_i hi
      rw [if_pos hi] at h2
      simp only [List.getElem?_map, Option.map_eq_some_iff] at h1
      obtain ⟨y, h3, rfl⟩ := h1
      have h4 : c.args[i]? = some y := by simpa using h3
      rw [Array.getElem?_map, h4] at h2
      simp at h2; subst h2
      exact hA.ev y
    · rename_i hi
      rw [if_neg hi] at h2
      exact hrel _ x v h1 h2
  · rintro ⟨v, m', H', N', x, rfl, hK, hS', hC, hx⟩
    exact hn v w' m' H' N' x hK hS' hC hx

/-- Every operation. -/
theorem aop_out (hS : St B m H N w) (hA : ARel m H N w env a) (h : aop P o.op (o.dst.getD 0) (ev env) H K) : Out P o a B m H N w K := by
  unfold aop at h
  split at h
  · rename_i x hop; exact out_move hS hA (.inl hop) h
  · rename_i x hop; exact out_move hS hA (.inr hop) h
  · rename_i c x y hop; exact out_pick hS hA hop h
  · rename_i t hop; exact out_alloc hS hop h
  · rename_i t x hop; exact out_box hS hA hop h
  · rename_i t ps hop; exact out_build hS hA hop h
  · rename_i t n ps hop; exact out_buildSlice hS hA hop h
  · rename_i t x hop; exact out_load hS hA hop h
  · rename_i t x y hop; exact out_store hS hA hop h
  · rename_i x hop; exact out_nil hS hA hop h
  · rename_i op t x y t' hop; exact out_bin hS hA hop h
  · rename_i op t x hop; exact out_un hS hA hop h
  · rename_i s t x hop; exact out_conv hS hA hop h
  · rename_i g first cap hop
    obtain ⟨rfl, h⟩ := h
    exact out_makeFunc hS hA hop h
  · rename_i t l c hop; exact out_make hS hA hop h
  · rename_i t x lo hi hop; exact out_slice hS hA hop h
  · rename_i t x i hop; exact out_fldAddr hS hA hop h
  · rename_i t x i hop; exact out_fld hS hA hop h
  · rename_i t x i hop; exact out_idxAddr hS hA hop h
  · rename_i t x i hop; exact out_index hS hA hop h
  · rename_i x i hop; exact out_extract hS hA hop h
  · rename_i c hop
    unfold acall at h
    split at h
    · rename_i b hb
      unfold abuiltin at h
      split at h
      · rename_i x' t hargs hts
        obtain ⟨x, hx1, hx2⟩ := map1 hargs
        have e1 := arr1 hx1
        have e2 := arr1 hts
        rw [← hx2] at h
        refine out_len (t := t) (x := x) hS hA ?_ h
        rw [hop]; cases c; simp_all
      · rename_i s' x' t t' hargs hts
        obtain ⟨rfl, h⟩ := h
        obtain ⟨x1, x2, hx, hx1, hx2⟩ := map2 hargs
        have e1 := arr2 hx
        have e2 := arr2 hts
        rw [← hx1, ← hx2] at h
        refine out_append (t := t) (s := x1) (x := x2) hS hA ?_ h
        rw [hop]; cases c; simp_all
      · rename_i s' x' hargs
        obtain ⟨x1, x2, hx, hx1, hx2⟩ := map2 hargs
        have e1 := arr2 hx
        rw [← hx1, ← hx2] at h
        refine out_mm (mx := false) (x := x1) (y := x2) (ts := c.argTypes) hS hA ?_ h
        rw [hop]; cases c; simp_all
      · rename_i s' x' hargs
        obtain ⟨x1, x2, hx, hx1, hx2⟩ := map2 hargs
        have e1 := arr2 hx
        rw [← hx1, ← hx2] at h
        refine out_mm (mx := true) (x := x1) (y := x2) (ts := c.argTypes) hS hA ?_ h
        rw [hop]; cases c; simp_all
      · rename_i s' x' t t' hargs hts
        obtain ⟨x1, x2, hx, hx1, hx2⟩ := map2 hargs
        have e1 := arr2 hx
        have e2 := arr2 hts
        rw [← hx1, ← hx2] at h
        refine out_copy (t := t) (t' := t') (s := x1) (x := x2) hS hA ?_ h
        rw [hop]; cases c; simp_all
      · exact h.elim
    · rename_i f hf
      split at h
      · rename_i g caps hg
        exact out_call hS hA hf hop hg h
      · exact h.elim
    · exact h.elim
  · exact h.elim
end

/-! ### 2. A region in the text's order -/
def aops (P : Program) (all : Array Oper) : List Oper → Env → Heap → (Env → Heap → Prop) → Prop
  | [], env, H, K => K env H
  | o :: rest, env, H, K =>
    match o.guard with
    | none => aop P o.op (o.dst.getD 0) (ev env) H fun v H' => aops P all rest (put env o.dst v) H' K
    | some (j, want) =>
      match (all[j]?).bind (·.dst) with
      | some t => (match env t with
        | .bool b => (b = want → aop P o.op (o.dst.getD 0) (ev env) H fun v H' => aops P all rest (put env o.dst v) H' K) ∧ (b = !want → aops P all rest (put env o.dst (.tup [])) H K)
        | .tup [] => aops P all rest (put env o.dst (.tup [])) H K
        | _ => False)
      | none => False

/-- All slots that are written are there. -/
def fitsOps (n : Nat) (ops : List Oper) : Bool := ops.all fun o => match o.dst with | some d => d < n | none => true

/-- The states behind a piece of code. -/
def Ends (B : Base) (n : Nat) (m : Nat → Option (Nat × Nat)) (H : Heap) (N : Nat → Prop) (w : World) (Q : Exit → Env → Heap → Prop) (e : Exit) (a' : Act) (w' : World) : Prop :=
  ∃ m' H' N' env', Q e env' H' ∧ St B m' H' N' w' ∧ ARel m' H' N' w' env' a' ∧ a'.tmps.size = n ∧ Ch m H N w m' H' N' w'
def AWp (P : Program) (n : Nat) (c : Code) (Q : Exit → Env → Heap → Prop) (env : Env) (H : Heap) : Prop :=
  ∀ (B : Base) (m : Nat → Option (Nat × Nat)) (N : Nat → Prop) (w : World) (a : Act), St B m H N w → ARel m H N w env a → a.tmps.size = n → c.wp P (Ends B n m H N w Q) a w

section
variable {P : Program} {n : Nat}

theorem size_put (a : Act) (d : Option Tmp) (v : Value) : (a.put d v).tmps.size = a.tmps.size := by cases d <;> simp [Act.put]

theorem rel_skip {m : Nat → Option (Nat × Nat)} {H : Heap} {N : Nat → Prop} {w : World} : Rel m H N w (.tup []) undef := .tup _ _ rfl (by simp)
/-- An operation that was left out yields no answer. -/
theorem skip_yields {m : Nat → Option (Nat × Nat)} {H : Heap} {N : Nat → Prop} {w : World} {all : Array Oper} {tmps : Array Value} {t j : Nat} (h : Rel m H N w (.tup []) (tmps.getD t undef)) (ht : (all[j]?).bind (·.dst) = some t) : yielded all tmps j = none := by
  unfold yielded
  rw [ht]
  simp only [Option.bind_some]
  rw [Array.getD_eq_getD_getElem?] at h
  cases hq : tmps[t]? with
  | none => rfl
  | some q =>
    rw [hq, Option.getD_some] at h
    cases h with
    | fz h => cases h
    | tup => rfl

theorem aops_wp (all : Array Oper) (Q : Exit → Act → World → Prop) (K : Env → Heap → Prop) (B : Base) :
    ∀ (k : Nat) (env : Env) (H : Heap) (m : Nat → Option (Nat × Nat)) (N : Nat → Prop) (w : World) (a : Act), k ≤ all.size → fitsOps n (all.toList.drop (all.size - k)) = true →
      aops P all (all.toList.drop (all.size - k)) env H K → St B m H N w → ARel m H N w env a → a.tmps.size = n →
      (∀ env' m' H' N' a' w', K env' H' → St B m' H' N' w' → ARel m' H' N' w' env' a' → a'.tmps.size = n → Ch m H N w m' H' N' w' → Q .normal a' w') →
      wpOps P all Q (List.range' (all.size - k) k) a w := by
  intro k
  induction k with
  | zero =>
    intro env H m N w a _ _ h hS hA hn hQ
    simp only [Nat.sub_zero, List.range'_zero, wpOps]
    rw [show all.toList.drop (all.size - 0) = [] from List.drop_eq_nil_of_le (by simp)] at h
    exact hQ env m H N a w h hS hA hn (Ch.refl m H N w)
  | succ k ih =>
    intro env H m N w a hk hfit h hS hA hn hQ
    have hi : all.size - (k + 1) < all.size := by omega
    have hdrop : all.toList.drop (all.size - (k + 1)) = all[all.size - (k + 1)] :: all.toList.drop (all.size - k) := by
      rw [List.drop_eq_getElem_cons (by simpa using hi)]
      simp
      congr 1
      omega
    have hget : all[all.size - (k + 1)]? = some all[all.size - (k + 1)] := Array.getElem?_eq_getElem hi
    rw [List.range'_succ, show all.size - (k + 1) + 1 = all.size - k from by omega]
    rw [wpOps_cons]
    unfold wpOp
    rw [hget]
    rw [hdrop] at h hfit
    generalize ho : all[all.size - (k + 1)] = o at *
    simp only [fitsOps, List.all_cons, Bool.and_eq_true] at hfit
    obtain ⟨hf1, hf2⟩ := hfit
    have hd : ∀ t, o.dst = some t → t < a.tmps.size := fun t ht => by rw [ht] at hf1; rw [hn]; simpa using hf1
    have step : (aop P o.op (o.dst.getD 0) (ev env) H fun v H' => aops P all (all.toList.drop (all.size - k)) (put env o.dst v) H' K) → o.wp P a w (wpOps P all Q (List.range' (all.size - k) k)) Q := fun h => by
      refine aop_out hS hA h _ _ fun v w' m' H' N' x hx hS' hC' hr => ?_
      exact ih _ H' m' N' w' _ (by omega) hf2 hx hS' ((hA.ch hC').put o.dst hd hr) (by rw [size_put, hn]) fun env' m2 H2 N2 a2 w2 hk2 hs2 ha2 hn2 hc2 => hQ env' m2 H2 N2 a2 w2 hk2 hs2 ha2 hn2 (hC'.trans hc2)
    simp only [aops] at h
    split at h
    · rename_i hg
      simp only [Region.wanted, hg, if_true]
      exact .inl (step h)
    · rename_i j want hg
      split at h
      · rename_i t ht
        split at h
        · rename_i b hb
          have hbv := rel_bool (hb ▸ hA.tmp t)
          have hy : yielded all a.tmps j = some b := by
            unfold yielded
            rw [ht]
            simp only [Option.bind_some]
            have : a.tmps[t]? = some (.bool b) := by
              rw [Array.getD_eq_getD_getElem?] at hbv
              cases hq : a.tmps[t]? with
              | none => rw [hq] at hbv; cases hbv
              | some q => rw [hq] at hbv; simp at hbv; rw [hbv]
            rw [this]
          simp only [Region.wanted, hg, hy]
          by_cases hbw : b = want
          · subst hbw
            simp only [BEq.rfl, if_true]
            exact .inl (step (h.1 rfl))
          · rw [if_neg (by simpa using hbw)]
            exact ih _ H m N w _ (by omega) hf2 (h.2 (by cases b <;> cases want <;> simp_all)) hS (hA.put o.dst hd rel_skip) (by rw [size_put, hn]) hQ
        · rename_i hb
          have hy : yielded all a.tmps j = none := skip_yields (hb ▸ hA.tmp t) ht
          simp only [Region.wanted, hg, hy]
          exact ih _ H m N w _ (by omega) hf2 h hS (hA.put o.dst hd rel_skip) (by rw [size_put, hn]) hQ
        · exact h.elim
      · exact h.elim

theorem AWp.region {id : Nat} {ops : Array Oper} {Q : Exit → Env → Heap → Prop} {env : Env} {H : Heap} (hf : fitsOps n ops.toList = true) (h : aops P ops ops.toList env H (Q .normal)) : AWp P n (.region id ops false) Q env H := by
  intro B m N w a hS hA hn
  refine wp_region ?_
  have := aops_wp (P := P) (n := n) ops (Ends B n m H N w Q) (Q .normal) B ops.size env H m N w a (Nat.le_refl _) (by simpa using hf) (by simpa using h) hS hA hn
    (fun env' m' H' N' a' w' h1 h2 h3 h4 h5 => ⟨m', H', N', env', h1, h2, h3, h4, h5⟩)
  simpa [List.range_eq_range'] using this
end
end Go.Abs

/- The abstract machine, part N: regions that draw their order. -/
set_option linter.unusedVariables false
set_option linter.unusedSimpArgs false
namespace Go.Abs
/-- A test. -/
def agd (v : AV) (want : Bool) (X Y : Prop) : Prop := match v with | .bool b => (b = want → X) ∧ (b = !want → Y) | .tup [] => Y | _ => False
def gslot (l : List Oper) (j : Nat) : Option Nat := (l[j]?).bind (·.dst)

/-! ### 1. Operations that only yield -/
/-- Operations that change no memory, and that yield one value. -/
def mute : Op → Bool
  | .move _ | .assign _ | .pick .. | .build .. | .load .. | .nilCheck _ | .binOp .. | .unOp .. | .convert .. | .makeFunc .. | .slice .. | .fieldAddr .. | .field .. | .indexAddr .. | .index .. | .extract .. => true
  | .call c => (match c.callee with | .builtin .len => true | .builtin .min => true | .builtin .max => true | _ => false)
  | _ => false
def isNilC : AV → Bool | .nil => true | _ => false
def quiet (op : Op) (e : Operand → AV) : Prop := match op with | .binOp _ _ _ y _ => isNilC (e y) = false | _ => True

def Det (f : (AV → Prop) → Prop) : Prop := ∀ K, f K → ∃ u, (∀ K' : AV → Prop, K' u → f K') ∧ K u
theorem Det.ret (v : AV) : Det fun K => K v := fun K h => ⟨v, fun K' h => h, h⟩
theorem Det.and {p : Prop} {f : (AV → Prop) → Prop} (h : Det f) : Det fun K => p ∧ f K := fun K hk => let ⟨u, h1, h2⟩ := h K hk.2; ⟨u, fun K' h => ⟨hk.1, h1 K' h⟩, h2⟩
theorem Det.no : Det fun _ => False := fun _ h => h.elim

theorem det_pick {c x y : AV} : Det (apick c x y) := by
  unfold apick
  cases c <;> first | exact Det.no | exact Det.ret _
theorem det_load {P : Program} {t : TypeId} {x : AV} {H : Heap} : Det (fun K => aload P t x H K) := by
  intro K h
  unfold aload at h ⊢
  split at h
  · split at h
    · split at h
      · exact ⟨_, fun K' hk => ⟨h.1, hk⟩, h.2⟩
      · exact h.elim
    · exact ⟨_, fun K' hk => ⟨h.1, hk⟩, h.2⟩
    · exact h.elim
  · split at h
    · obtain ⟨h1, h⟩ := h
      split at h
      · split at h
        · exact ⟨_, fun K' hk => ⟨h1, h.1, h.2.1, hk⟩, h.2.2⟩
        · exact h.elim
      · split at h
        · exact ⟨_, fun K' hk => ⟨h1, hk⟩, h⟩
        · exact h.elim
      · exact h.elim
    · exact h.elim
  · exact h.elim
theorem det_nil {x : AV} {H : Heap} : Det (fun K => anil x H K) := by
  intro K h
  unfold anil at h ⊢
  split at h
  · split at h
    · exact ⟨_, fun K' hk => ⟨h.1, h.2.1, hk⟩, h.2.2⟩
    · exact h.elim
  · exact ⟨_, fun K' hk => hk, h⟩
  · exact h.elim
theorem det_idxAddr {P : Program} {t : TypeId} {x i : AV} {H : Heap} : Det (fun K => aidxAddr P t x i H K) := by
  intro K h
  unfold aidxAddr at h ⊢
  split at h
  · split at h
    · obtain ⟨h1, h2, h⟩ := h
      split at h
      · exact ⟨_, fun K' hk => ⟨h1, h2, hk⟩, h⟩
      · exact h.elim
    · split at h
      · exact ⟨_, fun K' hk => ⟨h.1, h.2.1, h.2.2.1, h.2.2.2.1, hk⟩, h.2.2.2.2⟩
      · exact h.elim
    · exact h.elim
  · exact h.elim
theorem det_fldAddr {P : Program} {t : TypeId} {x : AV} {i : Nat} {H : Heap} : Det (fun K => afldAddr P t x i H K) := by
  intro K h
  unfold afldAddr at h ⊢
  split at h
  · split at h
    · split at h
      · exact ⟨_, fun K' hk => ⟨h.1, h.2.1, h.2.2.1, hk⟩, h.2.2.2⟩
      · exact h.elim
    · split at h
      · exact ⟨_, fun K' hk => ⟨h.1, h.2.1, hk⟩, h.2.2⟩
      · obtain ⟨h1, h⟩ := h
        split at h
        · exact ⟨_, fun K' hk => ⟨h1, h.1, hk⟩, h.2⟩
        · exact h.elim
      · exact h.elim
    · exact h.elim
  · exact h.elim
theorem det_fld {P : Program} {t : TypeId} {x : AV} {i : Nat} : Det (fun K => afld P t x i K) := by
  intro K h
  unfold afld at h ⊢
  split at h
  · split at h
    · split at h
      · split at h
        · exact ⟨_, fun K' hk => ⟨h.1, hk⟩, h.2⟩
        · exact h.elim
      · split at h
        · exact ⟨_, fun K' hk => hk, h⟩
        · exact h.elim
      · exact h.elim
    · exact h.elim
  · exact h.elim
theorem det_binInt {op : BinOp} {k k' : IntKind} {a b : Int} : Det (fun K => abinInt op k a k' b K) := by
  intro K h
  unfold abinInt at h ⊢
  cases op <;> first
    | exact ⟨_, fun K' hk => ⟨h.1, hk⟩, h.2⟩
    | exact ⟨_, fun K' hk => ⟨h.1, h.2.1, hk⟩, h.2.2⟩
theorem det_eqInts : ∀ (l l' : List AV) (K : Bool → Prop), eqInts l l' K → ∃ u, (∀ K' : Bool → Prop, K' u → eqInts l l' K') ∧ K u
  | [], [], K, h => ⟨true, fun K' hk => hk, h⟩
  | [], y :: l', K, h => by simp [eqInts] at h
  | x :: l, [], K, h => by cases x <;> simp [eqInts] at h
  | x :: l, y :: l', K, h => by
    cases x <;> cases y <;> try (simp [eqInts] at h; done)
    simp only [eqInts] at h ⊢
    obtain ⟨h0, h⟩ := h
    obtain ⟨u, h1, h2⟩ := det_eqInts l l' _ h
    exact ⟨_, fun K' hk => ⟨h0, h1 _ hk⟩, h2⟩
theorem det_bin {P : Program} {op : BinOp} {t : TypeId} {x y : AV} {H : Heap} (hn : isNilC y = false) : Det (fun K => abin P op t x y H K) := by
  intro K h
  unfold abin at h ⊢
  split at h
  · exact det_binInt K h
  · unfold abinStr at h ⊢
    cases op <;> first
      | exact h.elim
      | exact ⟨_, fun K' hk => ⟨h.1, hk⟩, h.2⟩
      | exact ⟨_, fun K' hk => hk, h⟩
  · obtain ⟨h1, h⟩ := h
    cases op <;> first
      | exact h.elim
      | exact ⟨_, fun K' hk => ⟨h1, hk⟩, h⟩
  · obtain ⟨h1, h2, h⟩ := h
    obtain ⟨u, h3, h⟩ := det_eqInts _ _ _ h
    cases op <;> first
      | exact h.elim
      | exact ⟨_, fun K' hk => ⟨h1, h2, h3 _ hk⟩, h⟩
  · cases hn
  · exact h.elim
theorem det_un {op : UnOp} {x : AV} : Det (fun K => aun op x K) := by
  intro K h
  unfold aun at h ⊢
  split at h <;> first
    | exact h.elim
    | exact ⟨_, fun K' hk => hk, h⟩
theorem det_conv {P : Program} {s t : TypeId} {x : AV} : Det (fun K => aconv P s t x K) := by
  intro K h
  unfold aconv at h ⊢
  split at h
  · obtain ⟨h1, h⟩ := h
    split at h
    · exact ⟨_, fun K' hk => ⟨h1, hk⟩, h⟩
    · exact h.elim
  · exact h.elim
theorem det_bound {x : Option AV} {n : Nat} {K : Nat → Prop} (h : abound x n K) : ∃ u, (∀ K' : Nat → Prop, K' u → abound x n K') ∧ K u := by
  unfold abound at h ⊢
  split at h
  · exact ⟨_, fun K' hk => hk, h⟩
  · exact ⟨_, fun K' hk => ⟨h.1, hk⟩, h.2⟩
  · exact h.elim
theorem det_slice {P : Program} {t : TypeId} {x : AV} {lo hi : Option AV} {H : Heap} : Det (fun K => aslice P t x lo hi H K) := by
  intro K h
  unfold aslice at h ⊢
  split at h
  · split at h
    · obtain ⟨h1, h⟩ := h
      obtain ⟨u, h2, h⟩ := det_bound h
      obtain ⟨v, h3, h⟩ := det_bound h
      exact ⟨_, fun K' hk => ⟨h1, h2 _ (h3 _ ⟨h.1, h.2.1, hk⟩)⟩, h.2.2⟩
    · exact h.elim
  · split at h
    · obtain ⟨h0, h1, h⟩ := h
      obtain ⟨u, h2, h⟩ := det_bound h
      obtain ⟨v, h3, h⟩ := det_bound h
      exact ⟨_, fun K' hk => ⟨h0, h1, h2 _ (h3 _ ⟨h.1, h.2.1, hk⟩)⟩, h.2.2⟩
    · exact h.elim
  · obtain ⟨h1, h⟩ := h
    obtain ⟨u, h2, h⟩ := det_bound h
    obtain ⟨v, h3, h⟩ := det_bound h
    exact ⟨_, fun K' hk => ⟨h1, h2 _ (h3 _ ⟨h.1, h.2.1, hk⟩)⟩, h.2.2⟩
  · exact h.elim
theorem det_index {P : Program} {t : TypeId} {x i : AV} : Det (fun K => aindex P t x i K) := by
  intro K h
  unfold aindex at h ⊢
  split at h
  · obtain ⟨h1, h2, h⟩ := h
    split at h
    · exact ⟨_, fun K' hk => ⟨h1, h2, hk⟩, h⟩
    · exact h.elim
  · exact h.elim
theorem det_extract {x : AV} {i : Nat} : Det (fun K => aextract x i K) := by
  intro K h
  unfold aextract at h ⊢
  split at h
  · split at h
    · exact ⟨_, fun K' hk => hk, h⟩
    · exact h.elim
  · exact h.elim
theorem det_buildGo {P : Program} {t : TypeId} : ∀ (ps : List (Nat × AV)) (cs : List AV) (K : List AV → Prop), abuildGo P t ps cs K → ∃ u, (∀ K' : List AV → Prop, K' u → abuildGo P t ps cs K') ∧ K u
  | [], cs, K, h => ⟨cs, fun K' hk => hk, h⟩
  | (i, x) :: r, cs, K, h => by
    unfold abuildGo at h ⊢
    split at h
    · obtain ⟨h1, h2, h3, h⟩ := h
      obtain ⟨u, h4, h⟩ := det_buildGo r _ K h
      exact ⟨u, fun K' hk => ⟨h1, h2, h3, h4 K' hk⟩, h⟩
    · exact h.elim
theorem det_build {P : Program} {t : TypeId} {ps : List (Nat × AV)} : Det (fun K => abuild P t ps K) := by
  intro K h
  unfold abuild at h ⊢
  obtain ⟨h1, h⟩ := h
  split at h
  · obtain ⟨u, h2, h⟩ := det_buildGo ps _ _ h
    exact ⟨_, fun K' hk => ⟨h1, h2 _ hk⟩, h⟩
  · exact h.elim
theorem det_len {P : Program} {t : TypeId} {x : AV} {H : Heap} : Det (fun K => alen P t x H K) := by
  intro K h
  unfold alen at h ⊢
  split at h
  · exact ⟨_, fun K' hk => ⟨h.1, hk⟩, h.2⟩
  · exact ⟨_, fun K' hk => ⟨h.1, hk⟩, h.2⟩
  · obtain ⟨h1, h⟩ := h
    split at h
    · exact ⟨_, fun K' hk => ⟨h1, h.1, hk⟩, h.2⟩
    · exact h.elim
  · exact ⟨_, fun K' hk => ⟨h.1, hk⟩, h.2⟩
  · exact h.elim
theorem det_mm {b : Bool} {x y : AV} : Det (fun K => amm b x y K) := by
  intro K h
  unfold amm at h ⊢
  split at h
  · exact ⟨_, fun K' hk => ⟨h.1, hk⟩, h.2⟩
  · exact h.elim

theorem Det.up {f : (AV → Prop) → Prop} (hf : Det f) {H : Heap} {K : AV → Heap → Prop} (h : f fun v => K v H) : ∃ u, (∀ K' : AV → Heap → Prop, K' u H → f fun v => K' v H) ∧ K u H :=
  let ⟨u, h1, h2⟩ := hf _ h
  ⟨u, fun K' hk => h1 _ hk, h2⟩

theorem aop_det {P : Program} {op : Op} {d : Nat} {e : Operand → AV} {H : Heap} {K : AV → Heap → Prop} (hm : mute op = true) (hq : quiet op e) (h : aop P op d e H K) :
    ∃ u, (∀ K' : AV → Heap → Prop, K' u H → aop P op d e H K') ∧ K u H := by
  unfold aop at h ⊢
  split at h <;> first | cases hm; done | skip
  · exact ⟨_, fun K' hk => hk, h⟩
  · exact ⟨_, fun K' hk => hk, h⟩
  · exact det_pick.up h
  · exact det_build.up h
  · exact det_load.up h
  · exact det_nil.up h
  · exact (det_bin hq).up h
  · exact det_un.up h
  · exact det_conv.up h
  · exact ⟨_, fun K' hk => ⟨h.1, hk⟩, h.2⟩
  · exact det_slice.up h
  · exact det_fldAddr.up h
  · exact det_fld.up h
  · exact det_idxAddr.up h
  · exact det_index.up h
  · exact det_extract.up h
  · rename_i c hop
    unfold acall at h ⊢
    simp only [mute] at hm
    split at h
    · rename_i b hb
      rw [hb] at hm
      unfold abuiltin at h ⊢
      split at h
      · exact det_len.up h
      · cases hm
      · exact det_mm.up h
      · exact det_mm.up h
      · cases hm
      · exact h.elim
    · rename_i f hf
      rw [hf] at hm; cases hm
    · exact h.elim
  · exact h.elim
end Go.Abs

/- The abstract machine, part O: a region that draws its order is run by a plan. -/
set_option linter.unusedVariables false
set_option linter.unusedSimpArgs false
namespace Go.Abs

theorem aop_congr_ev {P : Program} {op : Op} {d : Nat} {e e' : Operand → AV} {H : Heap} {K : AV → Heap → Prop} (h : ∀ x ∈ op.operands, e x = e' x) (hh : aop P op d e H K) : aop P op d e' H K := by
  have hs : ∀ c ∈ op.operands, e c = e' c := h
  cases op <;> simp only [Op.operands] at h <;> unfold aop at hh ⊢ <;> (try dsimp only at hh) <;> (try dsimp only)
  case call c =>
    unfold acall at hh ⊢
    have ha : c.args.toList.map e = c.args.toList.map e' := List.map_congr_left fun x hx => h x (by simp [Call.operands, Array.mem_toList_iff.1 hx])
    cases hc : c.callee with
    | value f => 
      have hf : e f = e' f := h f (by simp [Call.operands, hc])
      simpa [hc, hf, ha] using hh
    | builtin b => simpa [hc, ha] using hh
    | invoke r m => simp [hc] at hh
  case build t ps =>
    rwa [show (ps.toList.map fun p => (p.1, e' p.2)) = (ps.toList.map fun p => (p.1, e p.2)) from List.map_congr_left fun p hp => by rw [h p.2 (by simp; exact ⟨p.1, Array.mem_toList_iff.1 hp⟩)]]
  case buildSlice t k ps =>
    rwa [show (ps.toList.map fun p => (p.1, e' p.2)) = (ps.toList.map fun p => (p.1, e p.2)) from List.map_congr_left fun p hp => by rw [h p.2 (by simp; exact ⟨p.1, Array.mem_toList_iff.1 hp⟩)]]
  case makeFunc fn first cap =>
    cases fn <;> first | exact hh.elim | skip
    rename_i g
    refine ⟨hh.1, ?_⟩
    rw [show cap.toList.map e' = cap.toList.map e from List.map_congr_left fun x hx => (h x (by simp [Array.mem_toList_iff.1 hx])).symm]
    exact hh.2
  case slice t x lo hi mx =>
    cases mx <;> first | exact hh.elim | skip
    cases lo <;> cases hi <;> simp_all
  all_goals first | exact hh | exact hh.elim | (simp_all; done)

inductive Plan | done | no | take (i : Nat) (r : Plan) | eff (i : Nat) (s c : List Nat) (r o : Plan)

section
variable (P : Program) (l : List Oper)
def slotOf (i : Nat) : Option Tmp := (l[i]?).bind (·.dst)
def deps (j : Nat) : List Nat := match l[j]? with | some o => (o.after.toList.filter (Region.binds .any)).map (·.on) | none => []
def looks (j : Nat) : List Tmp := match l[j]? with
  | some o => (o.op.operands.toList.filterMap fun | .tmp t => some t | _ => none) ++ (match o.guard with | some (g, _) => (gslot l g).toList | none => [])
  | none => []
/-- One operation, under its guard. -/
def aopV (i : Nat) (env : Env) (H : Heap) (K : AV → Heap → Prop) : Prop :=
  match l[i]? with
  | none => False
  | some o => match o.guard with
    | none => aop P o.op (o.dst.getD 0) (ev env) H K
    | some (j, want) => match gslot l j with
      | some t => agd (env t) want (aop P o.op (o.dst.getD 0) (ev env) H K) (K (.tup []) H)
      | none => False
def muteAt (i : Nat) : Bool := match l[i]? with | some o => mute o.op | none => false
def quietAt (i : Nat) (env : Env) : Prop := match l[i]? with | some o => quiet o.op (ev env) | none => False
def putAt (i : Nat) (env : Env) (v : AV) : Env := put env (slotOf l i) v
def chks : List Nat → Env → Heap → Prop
  | [], _, _ => True
  | i :: is, env, H => quietAt l i env ∧ aopV P l i env H (fun v _ => match slotOf l i with | some d => v = env d | none => True) ∧ chks is env H
/-- What the plan asks. -/
def prun : Plan → Env → Heap → (Env → Heap → Prop) → Prop
  | .done, env, H, K => K env H
  | .no, _, _, _ => True
  | .take i r, env, H, K => quietAt l i env ∧ aopV P l i env H fun v H' => prun r (putAt l i env v) H' K
  | .eff i _ c r o, env, H, K => (aopV P l i env H fun v H' => chks P l c (putAt l i env v) H' ∧ prun r (putAt l i env v) H' K) ∧ prun o env H K

def sureOk : List Nat → List Nat → Bool
  | _, [] => true
  | acc, x :: xs => acc.any (fun y => (deps l y).contains x) && sureOk (x :: acc) xs
def tkOk (T : List Nat) (i : Nat) : Bool := muteAt l i && match slotOf l i with
  | none => true
  | some d => ((List.range l.length).all fun j => !(looks l j).contains d || (j != i && (deps l j).contains i)) && T.all fun k => slotOf l k != some d
def alts : Plan → List Nat
  | .eff i _ _ _ o => i :: alts o
  | _ => []
def rdy (L : List Nat) (i : Nat) : Bool := !L.contains i && (deps l i).all L.contains
/-- Is the plan fit? -/
def okP : Bool → List Nat → List Nat → Plan → Bool
  | false, L, _, .done => (List.range l.length).all L.contains
  | false, L, T, .take i r => rdy l L i && decide (i < l.length) && tkOk l T i && okP false (i :: L) (i :: T) r
  | alt, L, T, .eff i s c r o =>
    (alt || (List.range l.length).all fun j => !rdy l L j || i == j || (alts o).contains j) && rdy l L i && decide (i < l.length) &&
    sureOk l [i] s && T.all (fun t => s.contains t || c.contains t) && okP false (i :: L) T r && okP true L T o
  | true, _, _, .no => true
  | _, _, _, _ => false
def edgesOk : Bool := (List.range l.length).all fun j => (deps l j).all fun k => decide (k < j)
def planOk (p : Plan) : Bool := edgesOk l && okP l false [] [] p
end

/-! ### 2. The plan's states -/
variable {P : Program} {l : List Oper}

theorem aopV_congr {i : Nat} {env env' : Env} {H : Heap} {K : AV → Heap → Prop} (h : ∀ t ∈ looks l i, env t = env' t) (hh : aopV P l i env H K) : aopV P l i env' H K := by
  unfold aopV at hh ⊢
  unfold looks at h
  cases ho : l[i]? with
  | none => rw [ho] at hh; exact hh.elim
  | some o =>
    simp only [ho] at hh h ⊢
    have hop : ∀ x ∈ o.op.operands, ev env x = ev env' x := fun x hx => by
      cases x with
      | tmp t => exact h t (List.mem_append_left _ (List.mem_filterMap.2 ⟨.tmp t, by simpa using hx, rfl⟩))
      | _ => rfl
    cases hg : o.guard with
    | none => simp only [hg] at hh ⊢; exact aop_congr_ev hop hh
    | some p =>
      obtain ⟨j, want⟩ := p
      simp only [hg] at hh h ⊢
      cases ht : gslot l j with
      | none => rw [ht] at hh; exact hh.elim
      | some t =>
        simp only [ht] at hh h ⊢
        rw [← h t (List.mem_append_right _ (by simp))]
        unfold agd at hh ⊢
        split at hh
        · exact ⟨fun e => aop_congr_ev hop (hh.1 e), hh.2⟩
        · exact hh
        · exact hh.elim

theorem aopV_det {i : Nat} {env : Env} {H : Heap} {K : AV → Heap → Prop} (hm : muteAt l i = true) (hq : quietAt l i env) (h : aopV P l i env H K) :
    ∃ u, (∀ K' : AV → Heap → Prop, K' u H → aopV P l i env H K') ∧ K u H := by
  unfold aopV at h ⊢
  unfold muteAt at hm
  unfold quietAt at hq
  cases ho : l[i]? with
  | none => rw [ho] at h; exact h.elim
  | some o =>
    simp only [ho] at h hm hq ⊢
    cases hg : o.guard with
    | none => simp only [hg] at h ⊢; exact aop_det hm hq h
    | some p =>
      obtain ⟨j, want⟩ := p
      simp only [hg] at h ⊢
      cases ht : gslot l j with
      | none => rw [ht] at h; exact h.elim
      | some t =>
        simp only [ht] at h ⊢
        unfold agd at h ⊢
        split at h
        · rename_i b hb
          by_cases hbw : b = want
          · obtain ⟨u, h1, h2⟩ := aop_det hm hq (h.1 hbw)
            exact ⟨u, fun K' hk => ⟨fun _ => h1 K' hk, fun e => by rw [hbw] at e; cases want <;> cases e⟩, h2⟩
          · have hbn : b = !want := by cases b <;> cases want <;> simp_all
            exact ⟨.tup [], fun K' hk => ⟨fun e => absurd e hbw, fun _ => hk⟩, h.2 hbn⟩
        · exact ⟨.tup [], fun K' hk => hk, h⟩
        · exact h.elim

/-- A state of the plan: 'A' has been run, 'L' has been worked out; 'T' are those that may stand out. -/
structure PInv (P : Program) (l : List Oper) (K : Env → Heap → Prop) (A : Nat → Prop) (L T : List Nat) (p : Plan) (envA envL : Env) (H : Heap) : Prop where
  sub : ∀ j, A j → j ∈ L
  closA : ∀ j, A j → ∀ k ∈ deps l j, A k
  closL : ∀ j ∈ L, ∀ k ∈ deps l j, k ∈ L
  lt : ∀ j ∈ L, j < l.length
  good : ∀ i ∈ T, muteAt l i = true ∧ ∀ d, slotOf l i = some d → ∀ j, d ∈ looks l j → j ≠ i ∧ i ∈ deps l j
  pend : ∀ i ∈ L, ¬ A i → i ∈ T ∧ ∃ u, (∀ K' : AV → Heap → Prop, K' u H → aopV P l i envL H K') ∧ ∀ d, slotOf l i = some d → envL d = u
  same : ∀ t, (∀ i ∈ L, ¬ A i → slotOf l i ≠ some t) → envA t = envL t
  ok : okP l false L T p = true
  run : prun P l p envL H K

theorem looks_lt {j t : Nat} (h : t ∈ looks l j) : j < l.length := by
  unfold looks at h
  cases ho : l[j]? with
  | none => rw [ho] at h; cases h
  | some o => exact (List.getElem?_eq_some_iff.1 ho).1

theorem putAt_ne {i t : Nat} {env : Env} {v : AV} (h : slotOf l i ≠ some t) : putAt l i env v t = env t := by
  unfold putAt put
  cases hd : slotOf l i with
  | some d => exact if_neg (fun e => h (by rw [hd, e]))
  | none => rfl
theorem putAt_eq {i t : Nat} {env : Env} {v : AV} (h : slotOf l i = some t) : putAt l i env v t = v := by
  unfold putAt put
  rw [h]
  simp [upd]

theorem PInv.norm {K : Env → Heap → Prop} {A : Nat → Prop} {envA : Env} {H : Heap} : ∀ (p : Plan) (L T : List Nat) (envL : Env), PInv P l K A L T p envA envL H →
    ∃ L' T' p' envL', PInv P l K A L' T' p' envA envL' H ∧ ∀ i r, p' ≠ .take i r
  | .done, L, T, envL, h => ⟨L, T, _, envL, h, by intros; nofun⟩
  | .no, L, T, envL, h => ⟨L, T, _, envL, h, by intros; nofun⟩
  | .eff i s c r o, L, T, envL, h => ⟨L, T, _, envL, h, by intros; nofun⟩
  | .take i r, L, T, envL, h => by
    have ok := h.ok
    simp only [okP, Bool.and_eq_true, decide_eq_true_eq] at ok
    obtain ⟨⟨⟨hr, hi⟩, htk⟩, hok⟩ := ok
    simp only [rdy, Bool.and_eq_true, Bool.not_eq_true', List.all_eq_true, List.contains_eq_mem, decide_eq_false_iff_not, decide_eq_true_eq] at hr
    obtain ⟨hnL, hdL⟩ := hr
    simp only [tkOk, Bool.and_eq_true] at htk
    obtain ⟨hm, hsl⟩ := htk
    obtain ⟨hq, hrun⟩ := h.run
    obtain ⟨u, hu1, hu2⟩ := aopV_det hm hq hrun
    have hgood : ∀ d, slotOf l i = some d → (∀ j, d ∈ looks l j → j ≠ i ∧ i ∈ deps l j) ∧ ∀ k ∈ T, slotOf l k ≠ some d := fun d hd => by
      rw [hd] at hsl
      simp only [Bool.and_eq_true, List.all_eq_true, List.mem_range] at hsl
      refine ⟨fun j hj => ?_, fun k hk => by simpa using hsl.2 k hk⟩
      have := hsl.1 j (looks_lt hj)
      simpa [hj] using this
    have hstay : ∀ j ∈ L, ∀ t ∈ looks l j, envL t = putAt l i envL u t := fun j hj t ht => by
      rw [putAt_ne]
      intro e
      exact hnL (h.closL j hj i ((hgood t e).1 j ht).2)
    refine PInv.norm r (i :: L) (i :: T) (putAt l i envL u) ?_
    refine ⟨fun j hj => List.mem_cons_of_mem _ (h.sub j hj), h.closA, ?_, ?_, ?_, ?_, ?_, hok, hu2⟩
    · intro j hj k hk
      rcases List.mem_cons.1 hj with rfl | hj
      · exact List.mem_cons_of_mem _ (hdL k hk)
      · exact List.mem_cons_of_mem _ (h.closL j hj k hk)
    · intro j hj
      rcases List.mem_cons.1 hj with rfl | hj
      · exact hi
      · exact h.lt j hj
    · intro j hj
      rcases List.mem_cons.1 hj with rfl | hj
      · exact ⟨hm, fun d hd => (hgood d hd).1⟩
      · exact h.good j hj
    · intro j hj hA
      rcases List.mem_cons.1 hj with rfl | hj
      · refine ⟨List.mem_cons_self .., u, fun K' hk => ?_, fun d hd => putAt_eq hd⟩
        refine aopV_congr (env := envL) (fun t ht => ?_) (hu1 K' hk)
        rw [putAt_ne]
        intro e
        exact ((hgood t e).1 j ht).1 rfl
      · obtain ⟨hT, v, h1, h2⟩ := h.pend j hj hA
        refine ⟨List.mem_cons_of_mem _ hT, v, fun K' hk => aopV_congr (hstay j hj) (h1 K' hk), fun d hd => ?_⟩
        rw [putAt_ne, h2 d hd]
        intro e
        exact (hgood d e).2 j hT hd
    · intro t ht
      rw [putAt_ne, h.same t fun k hk hA => ht k (List.mem_cons_of_mem _ hk) hA]
      exact ht i (List.mem_cons_self ..) fun hA => hnL (h.sub i hA)

theorem sure_mem {A : Nat → Prop} (hA : ∀ j, A j → ∀ k ∈ deps l j, A k) : ∀ (xs acc : List Nat), (∀ y ∈ acc, ∀ k ∈ deps l y, A k) → sureOk l acc xs = true → ∀ x ∈ xs, A x
  | [], acc, _, _, x, hx => by cases hx
  | y :: xs, acc, h, hs, x, hx => by
    simp only [sureOk, Bool.and_eq_true, List.any_eq_true, List.contains_eq_mem, decide_eq_true_eq] at hs
    obtain ⟨⟨z, hz, hy⟩, hs⟩ := hs
    have hAy := h z hz y hy
    rcases List.mem_cons.1 hx with rfl | hx
    · exact hAy
    · exact sure_mem hA xs (y :: acc) (fun q hq => by
        rcases List.mem_cons.1 hq with rfl | hq
        · exact hA _ hAy
        · exact h q hq) hs x hx

theorem chks_spec {env : Env} {H : Heap} : ∀ (c : List Nat), chks P l c env H → ∀ i ∈ c, muteAt l i = true → ∃ u, (∀ K' : AV → Heap → Prop, K' u H → aopV P l i env H K') ∧ ∀ d, slotOf l i = some d → env d = u
  | [], _, i, hi, _ => by cases hi
  | j :: c, h, i, hi, hm => by
    obtain ⟨hq, h1, h2⟩ := h
    rcases List.mem_cons.1 hi with rfl | hi
    · obtain ⟨u, h3, h4⟩ := aopV_det hm hq h1
      exact ⟨u, h3, fun d hd => by rw [hd] at h4; exact h4.symm⟩
    · exact chks_spec c h2 i hi hm

/-- The alternatives. -/
theorem alt_spec {L T : List Nat} {envL : Env} {H : Heap} {K : Env → Heap → Prop} {j : Nat} : ∀ (p : Plan) (alt : Bool), okP l alt L T p = true → prun P l p envL H K → (∀ i r, p ≠ .take i r) → j ∈ alts p →
    ∃ s c r, rdy l L j = true ∧ j < l.length ∧ sureOk l [j] s = true ∧ (∀ t ∈ T, t ∈ s ∨ t ∈ c) ∧ okP l false (j :: L) T r = true ∧
      aopV P l j envL H fun v H' => chks P l c (putAt l j envL v) H' ∧ prun P l r (putAt l j envL v) H' K
  | .done, alt, _, _, _, h => by cases h
  | .no, alt, _, _, _, h => by cases h
  | .take i r, alt, _, _, hn, _ => absurd rfl (hn i r)
  | .eff i s c r o, alt, hok, hrun, _, h => by
    simp only [okP, Bool.and_eq_true, decide_eq_true_eq] at hok
    obtain ⟨⟨⟨⟨⟨⟨_, h1⟩, h2⟩, h3⟩, h4⟩, h5⟩, h6⟩ := hok
    rcases List.mem_cons.1 h with rfl | h
    · exact ⟨s, c, r, h1, h2, h3, fun t ht => by have := List.all_eq_true.1 h4 t ht; simpa using this, h5, hrun.1⟩
    · refine alt_spec o true h6 hrun.2 (fun i' r' e => ?_) h
      rw [e] at h6; cases h6

theorem PInv.step {K : Env → Heap → Prop} {A : Nat → Prop} {L T : List Nat} {p : Plan} {envA envL : Env} {H : Heap} (h : PInv P l K A L T p envA envL H) {j : Nat} (hj : j < l.length) (hA : ¬ A j) (hd : ∀ k ∈ deps l j, A k) :
    ∃ Kj : AV → Heap → Prop, aopV P l j envA H Kj ∧ ∀ v H', Kj v H' → ∃ L' T' p' envL', PInv P l K (fun k => A k ∨ k = j) L' T' p' (putAt l j envA v) envL' H' := by
  obtain ⟨L, T, p, envL, h, hp⟩ := PInv.norm p L T envL h
  have hlook : ∀ t ∈ looks l j, (∀ k ∈ L, ¬ A k → k ≠ j → slotOf l k ≠ some t) := fun t ht k hk hAk hkj e =>
    hAk (hd k (((h.good k (h.pend k hk hAk).1).2 t e j ht).2))
  have hclos : ∀ i, (A i ∨ i = j) → ∀ k ∈ deps l i, A k ∨ k = j := fun i hi k hk => by
    rcases hi with hi | rfl
    · exact .inl (h.closA i hi k hk)
    · exact .inl (hd k hk)
  by_cases hjL : j ∈ L
  · obtain ⟨hT, u, h1, h2⟩ := h.pend j hjL hA
    refine ⟨fun v H' => H' = H ∧ v = u, ?_, ?_⟩
    · refine aopV_congr (env := envL) (fun t ht => ?_) (h1 _ ⟨rfl, rfl⟩)
      refine (h.same t fun k hk hAk e => ?_).symm
      by_cases hkj : k = j
      · subst hkj
        exact ((h.good k hT).2 t e k ht).1 rfl
      · exact hlook t ht k hk hAk hkj e
    · rintro v H' ⟨rfl, rfl⟩
      refine ⟨L, T, p, envL, ⟨fun i hi => ?_, hclos, h.closL, h.lt, h.good, fun i hi hAi => h.pend i hi fun ha => hAi (.inl ha), fun t ht => ?_, h.ok, h.run⟩⟩
      · rcases hi with hi | rfl
        · exact h.sub i hi
        · exact hjL
      · by_cases e : slotOf l j = some t
        · rw [putAt_eq e, h2 t e]
        · rw [putAt_ne e]
          refine h.same t fun k hk hAk => ?_
          by_cases hkj : k = j
          · rw [hkj]; exact e
          · exact ht k hk fun hq => hq.elim hAk hkj
  · have hrdy : rdy l L j = true := by
      simp only [rdy, Bool.and_eq_true, Bool.not_eq_true', List.all_eq_true, List.contains_eq_mem, decide_eq_false_iff_not, decide_eq_true_eq]
      exact ⟨hjL, fun k hk => h.sub k (hd k hk)⟩
    have halt : j ∈ alts p := by
      have ok := h.ok
      cases p with
      | done =>
        simp only [okP, List.all_eq_true, List.mem_range] at ok
        exact absurd (by simpa using ok j hj) hjL
      | no => cases ok
      | take i r => exact absurd rfl (hp i r)
      | eff i s c r o =>
        simp only [okP, Bool.and_eq_true, Bool.false_or, List.all_eq_true, List.mem_range] at ok
        have := ok.1.1.1.1.1.1 j hj
        simp only [hrdy, Bool.not_true, Bool.false_or, Bool.or_eq_true, beq_iff_eq, List.contains_eq_mem, decide_eq_true_eq] at this
        simp only [alts, List.mem_cons]
        exact this.imp Eq.symm id
    obtain ⟨s, c, r, _, _, hs, hT, hok, hrun⟩ := alt_spec p false h.ok h.run hp halt
    refine ⟨_, aopV_congr (env := envL) (fun t ht => ?_) hrun, ?_⟩
    · exact (h.same t fun k hk hAk => hlook t ht k hk hAk (fun e => hjL (e ▸ hk))).symm
    · rintro v H' ⟨hc, hr⟩
      refine ⟨j :: L, T, r, putAt l j envL v, ⟨?_, hclos, ?_, ?_, h.good, ?_, ?_, hok, hr⟩⟩
      · intro i hi
        rcases hi with hi | rfl
        · exact List.mem_cons_of_mem _ (h.sub i hi)
        · exact List.mem_cons_self ..
      · intro i hi k hk
        rcases List.mem_cons.1 hi with rfl | hi
        · exact List.mem_cons_of_mem _ (h.sub k (hd k hk))
        · exact List.mem_cons_of_mem _ (h.closL i hi k hk)
      · intro i hi
        rcases List.mem_cons.1 hi with rfl | hi
        · exact hj
        · exact h.lt i hi
      · intro i hi hAi
        rcases List.mem_cons.1 hi with rfl | hi
        · exact absurd (.inr rfl) hAi
        · have hAi' : ¬ A i := fun ha => hAi (.inl ha)
          have hiT := (h.pend i hi hAi').1
          refine ⟨hiT, chks_spec c hc i ?_ (h.good i hiT).1⟩
          rcases hT i hiT with h1 | h1
          · exact absurd (sure_mem h.closA s [j] (fun y hy => by rw [List.mem_singleton.1 hy]; exact hd) hs i h1) hAi'
          · exact h1
      · intro t ht
        by_cases e : slotOf l j = some t
        · rw [putAt_eq e, putAt_eq e]
        · rw [putAt_ne e, putAt_ne e]
          exact h.same t fun k hk hAk => ht k (List.mem_cons_of_mem _ hk) fun hq => hq.elim hAk fun e => hjL (e ▸ hk)

theorem PInv.end {K : Env → Heap → Prop} {A : Nat → Prop} {L T : List Nat} {p : Plan} {envA envL : Env} {H : Heap} (h : PInv P l K A L T p envA envL H) (hA : ∀ j, j < l.length → A j) : K envA H := by
  obtain ⟨L, T, p, envL, h, hp⟩ := PInv.norm p L T envL h
  have he : envA = envL := funext fun t => h.same t fun i hi hAi => absurd (hA i (h.lt i hi)) hAi
  have ok := h.ok
  have run := h.run
  cases p with
  | done => rw [he]; exact run
  | no => cases ok
  | take i r => exact absurd rfl (hp i r)
  | eff i s c r o =>
    simp only [okP, Bool.and_eq_true, decide_eq_true_eq] at ok
    obtain ⟨⟨⟨⟨⟨⟨_, h1⟩, h2⟩, h3⟩, h4⟩, h5⟩, h6⟩ := ok
    have := h.sub i (hA i h2)
    simp [rdy, this] at h1
end Go.Abs

/- The abstract machine, part P: plans are sound. -/
set_option linter.unusedVariables false
set_option linter.unusedSimpArgs false
namespace Go.Abs
variable {P : Program} {l : List Oper} {n : Nat}

theorem toL (i : Nat) : (List.toArray l)[i]? = l[i]? := by simp

theorem opAt {i : Nat} {o : Oper} {a : Act} {B : Base} {m : Nat → Option (Nat × Nat)} {H : Heap} {N : Nat → Prop} {w : World} {env : Env} {Kj : AV → Heap → Prop} {K : Act → World → Prop} {Q : Exit → Act → World → Prop}
    (ho : l[i]? = some o) (hS : St B m H N w) (hA : ARel m H N w env a) (h : aopV P l i env H Kj)
    (hn : ∀ v w' m' H' N' x, Kj x H' → St B m' H' N' w' → Ch m H N w m' H' N' w' → Rel m' H' N' w' x v → K (a.put o.dst v) w') : wpOp P l.toArray Q i K a w := by
  unfold wpOp
  rw [toL, ho]
  unfold aopV at h
  simp only [ho] at h ⊢
  split at h
  · rename_i hg
    simp only [Region.wanted, hg, if_true]
    exact .inl (aop_out hS hA h _ _ hn)
  · rename_i j want hg
    split at h
    · rename_i t ht
      unfold agd at h
      split at h
      · rename_i b hb
        have hbv := rel_bool (hb ▸ hA.tmp t)
        have hy : yielded l.toArray a.tmps j = some b := by
          unfold yielded
          rw [toL, show (l[j]?).bind (·.dst) = some t from ht]
          simp only [Option.bind_some]
          have : a.tmps[t]? = some (.bool b) := by
            rw [Array.getD_eq_getD_getElem?] at hbv
            cases hq : a.tmps[t]? with
            | none => rw [hq] at hbv; cases hbv
            | some q => rw [hq] at hbv; simp at hbv; rw [hbv]
          rw [this]
        simp only [Region.wanted, hg, hy]
        by_cases hbw : b = want
        · subst hbw
          simp only [BEq.rfl, if_true]
          exact .inl (aop_out hS hA (h.1 rfl) _ _ hn)
        · rw [if_neg (by simpa using hbw)]
          exact hn undef w m H N (.tup []) (h.2 (by cases b <;> cases want <;> simp_all)) hS (Ch.refl ..) rel_skip
      · rename_i hb
        have hy : yielded l.toArray a.tmps j = none := skip_yields (hb ▸ hA.tmp t) (by rw [toL]; exact ht)
        simp only [Region.wanted, hg, hy]
        exact hn undef w m H N (.tup []) h hS (Ch.refl ..) rel_skip
      · exact h.elim
    · exact h.elim

theorem dep_iff {o : Oper} {j k : Nat} (ho : l[j]? = some o) : k ∈ deps l j ↔ ∃ e ∈ o.after, Region.binds .any e = true ∧ e.on = k := by
  unfold deps
  rw [ho]
  simp [and_assoc]

/-- 'A' of the list. -/
def hasRun (listed : Array Bool) (j : Nat) : Prop := listed.getD j false = true

theorem plan_wp {Q : Exit → Act → World → Prop} {K : Env → Heap → Prop} {B : Base} (he : edgesOk l = true) (hf : fitsOps n l = true) :
    ∀ (fuel : Nat) (listed : Array Bool) (A : Nat → Prop) (L T : List Nat) (p : Plan) (envA envL : Env) (H : Heap) (m : Nat → Option (Nat × Nat)) (N : Nat → Prop) (w : World) (a : Act),
      listed.size = l.length → listed.toList.count true + fuel = l.length → (∀ j, A j ↔ hasRun listed j) → PInv P l K A L T p envA envL H → St B m H N w → ARel m H N w envA a → a.tmps.size = n →
      (∀ env' m' H' N' a' w', K env' H' → St B m' H' N' w' → ARel m' H' N' w' env' a' → a'.tmps.size = n → Ch m H N w m' H' N' w' → Q .normal a' w') →
      wpAny P .any l.toArray Q fuel listed a w := by
  have hend : ∀ (listed : Array Bool) (A : Nat → Prop) (L T : List Nat) (p : Plan) (envA envL : Env) (H : Heap) (m : Nat → Option (Nat × Nat)) (N : Nat → Prop) (w : World) (a : Act),
      listed.size = l.length → (∀ j, A j ↔ hasRun listed j) → PInv P l K A L T p envA envL H → St B m H N w → ARel m H N w envA a → a.tmps.size = n →
      (∀ env' m' H' N' a' w', K env' H' → St B m' H' N' w' → ARel m' H' N' w' env' a' → a'.tmps.size = n → Ch m H N w m' H' N' w' → Q .normal a' w') →
      (∀ j, j < l.length → A j) → Q .normal a w := fun listed A L T p envA envL H m N w a _ _ h hS hA hn hQ hall =>
    hQ envA m H N a w (h.end hall) hS hA hn (Ch.refl ..)
  intro fuel
  induction fuel with
  | zero =>
    intro listed A L T p envA envL H m N w a hsz hcnt hAL h hS hA hn hQ
    have hall : ∀ j, j < l.length → A j := fun j hj => by
      have h1 : listed.toList.count true = listed.toList.length := by rw [Array.length_toList, hsz]; omega
      have h2 := List.count_eq_length.1 h1
      rw [hAL]
      unfold hasRun
      have hj' : j < listed.size := by omega
      have := h2 listed[j] (by simp)
      simp [hj', ← this]
    refine ⟨?_, hend listed A L T p envA envL H m N w a hsz hAL h hS hA hn hQ hall⟩
    refine List.eq_nil_iff_forall_not_mem.2 fun j hj => ?_
    rw [mem_ready] at hj
    obtain ⟨h0, o, ho, _⟩ := hj
    have h3 := (hAL j).1 (hall j (by have := (Array.getElem?_eq_some_iff.1 ho).1; simpa using this))
    unfold hasRun at h3
    rcases Nat.lt_or_ge j listed.size with hj | hj
    · simp [hj] at h0 h3; rw [h0] at h3; cases h3
    · simp [Array.getElem?_eq_none hj] at h0
  | succ fuel ih =>
    intro listed A L T p envA envL H m N w a hsz hcnt hAL h hS hA hn hQ
    refine ⟨fun hnone => ?_, fun j hj => ?_⟩
    · refine hend listed A L T p envA envL H m N w a hsz hAL h hS hA hn hQ fun j => ?_
      induction j using Nat.strongRecOn with
      | ind j ihj =>
        intro hj
        rw [hAL]
        refine Classical.byContradiction fun hnr => ?_
        have : j ∈ Region.ready .any l.toArray listed := by
          rw [mem_ready]
          have hj' : j < listed.size := by omega
          refine ⟨?_, l[j], by simp [hj], fun e hee hb => ?_⟩
          · unfold hasRun at hnr
            simpa [hj'] using hnr
          · have hk : e.on ∈ deps l j := (dep_iff (List.getElem?_eq_getElem hj)).2 ⟨e, hee, hb, rfl⟩
            simp only [edgesOk, List.all_eq_true, List.mem_range, decide_eq_true_eq] at he
            have hlt := he j hj _ hk
            exact (hAL _).1 (ihj _ hlt (by omega))
        rw [hnone] at this; cases this
    · rw [mem_ready] at hj
      obtain ⟨h0, o, ho, hafter⟩ := hj
      rw [toL] at ho
      have hjl : j < l.length := (List.getElem?_eq_some_iff.1 ho).1
      have hjs : j < listed.size := by omega
      have hnA : ¬ A j := fun hA => by
        have := (hAL j).1 hA
        unfold hasRun at this
        simp [hjs] at h0 this; rw [h0] at this; cases this
      have hd : ∀ k ∈ deps l j, A k := fun k hk => by
        obtain ⟨e, h1, h2, h3⟩ := (dep_iff ho).1 hk
        rw [hAL, ← h3]
        exact hafter e h1 h2
      obtain ⟨Kj, hop, hnext⟩ := h.step hjl hnA hd
      refine opAt ho hS hA hop fun v w' m' H' N' x hx hS' hC' hr => ?_
      obtain ⟨L', T', p', envL', hinv⟩ := hnext x H' hx
      have hslot : slotOf l j = o.dst := by simp [slotOf, ho]
      have hput : putAt l j envA x = put envA o.dst x := by simp [putAt, hslot]
      rw [hput] at hinv
      have hdn : ∀ t, o.dst = some t → t < a.tmps.size := fun t ht => by
        have := List.all_eq_true.1 hf o (List.mem_of_getElem? ho)
        rw [ht] at this; rw [hn]; simpa using this
      refine ih (listed.setIfInBounds j true) _ L' T' p' _ envL' H' m' N' w' _ (by simp [hsz]) ?_ ?_ hinv hS' ((hA.ch hC').put o.dst hdn hr) (by rw [size_put, hn]) fun env' m2 H2 N2 a2 w2 hk2 hs2 ha2 hn2 hc2 => hQ env' m2 H2 N2 a2 w2 hk2 hs2 ha2 hn2 (hC'.trans hc2)
      · have hl : j < listed.toList.length := by simpa using hjs
        have hv : listed.toList[j] = false := by simpa [hjs] using h0
        rw [Array.toList_setIfInBounds, List.count_set hl, hv]
        have e1 : (if (false == true) = true then 1 else 0) = 0 := rfl
        have e2 : (if (true == true) = true then 1 else 0) = 1 := rfl
        rw [e1, e2]
        omega
      · intro k
        unfold hasRun
        by_cases hkj : k = j
        · subst hkj
          simp [hjs]
        · rw [getD_set_ne false (Ne.symm hkj)]
          simp only [hkj, or_false]
          exact hAL k

theorem AWp.draw {id : Nat} {Q : Exit → Env → Heap → Prop} {env : Env} {H : Heap} (p : Plan) (hm : P.follows .mixedOrders = true) (hf : fitsOps n l = true) (hp : planOk l p = true)
    (h : prun P l p env H (Q .normal)) : AWp P n (.region id l.toArray true) Q env H := by
  simp only [planOk, Bool.and_eq_true] at hp
  intro B m N w a hS hA hn
  obtain ⟨hd, hC⟩ := hS.drew
  refine wp_region_any hm ?_
  have hinv : PInv P l (Q .normal) (fun _ => False) [] [] p env env H := ⟨fun _ h => h.elim, fun _ h => h.elim, by simp, by simp, by simp, by simp, fun _ _ => rfl, hp.2, h⟩
  have := plan_wp (P := P) (l := l) (n := n) (Q := Ends B n m H N w Q) (K := Q .normal) (B := B) hp.1 hf l.length (Array.replicate l.length false) (fun _ => False) [] [] p env env H m N _ a (by simp) (by simp [List.count_replicate]) (fun j => by
    constructor
    · exact fun h => h.elim
    · intro h
      unfold hasRun at h
      rw [Array.getD_eq_getD_getElem?, Array.getElem?_replicate] at h
      split at h <;> simp at h) hinv hd (hA.ch hC) hn fun env' m' H' N' a' w' h1 h2 h3 h4 h5 => ⟨m', H', N', env', h1, h2, h3, h4, hC.trans h5⟩
  rw [List.size_toArray]
  exact this
end Go.Abs

/- The abstract machine, part K: code, loops, functions. -/
set_option linter.unusedVariables false
set_option linter.unusedSimpArgs false
namespace Go.Abs

def ALoop (P : Program) (n : Nat) (body : Code) (Q : Exit → Env → Heap → Prop) (env : Env) (H : Heap) : Prop := AWp P n (.loop body) Q env H

def thenQ (K : Env → Heap → Prop) (Q : Exit → Env → Heap → Prop) : Exit → Env → Heap → Prop
  | .normal, env, H => K env H
  | e, env, H => Q e env H
def blockQ (id : Nat) (Q : Exit → Env → Heap → Prop) : Exit → Env → Heap → Prop
  | .exit i, env, H => if i = id then Q .normal env H else Q (.exit i) env H
  | e, env, H => Q e env H

/-- The plans for the regions that draw their order. -/
abbrev Plans := List (Nat × Plan)
def planOf : Plans → Nat → Plan
  | [], _ => .no
  | (i, p) :: r, id => if id = i then p else planOf r id
/-- What code asks. -/
def cwp (P : Program) (n : Nat) (pl : Plans) : Code → (Exit → Env → Heap → Prop) → Env → Heap → Prop
  | .skip, Q, env, H => Q .normal env H
  | .region id ops false, Q, env, H => aops P ops ops.toList env H (Q .normal)
  | .region id ops true, Q, env, H => prun P ops.toList (planOf pl id) env H (Q .normal)
  | .seq x y, Q, env, H => cwp P n pl x (thenQ (cwp P n pl y Q) Q) env H
  | .cond c x y, Q, env, H => (match ev env c with | .bool t => (t = true → cwp P n pl x Q env H) ∧ (t = false → cwp P n pl y Q env H) | _ => False)
  | .block id x, Q, env, H => cwp P n pl x (blockQ id Q) env H
  | .loop x, Q, env, H => ALoop P n x Q env H
  | .exit id, Q, env, H => Q (.exit id) env H
  | .ret, Q, env, H => Q .ret env H
  | _, _, _, _ => False
def fits (P : Program) (n : Nat) (pl : Plans) : Code → Bool
  | .region _ ops false => fitsOps n ops.toList
  | .region id ops true => fitsOps n ops.toList && P.follows .mixedOrders && planOk ops.toList (planOf pl id)
  | .seq x y => fits P n pl x && fits P n pl y
  | .cond _ x y => fits P n pl x && fits P n pl y
  | .block _ x => fits P n pl x
  | .loop x => fits P n pl x
  | .skip | .exit _ | .ret => true
  | _ => false

section
variable {P : Program} {n : Nat} {pl : Plans}

theorem Ends.ch {B : Base} {m m1 : Nat → Option (Nat × Nat)} {H H1 : Heap} {N N1 : Nat → Prop} {w w1 : World} {Q : Exit → Env → Heap → Prop} {e : Exit} {a' : Act} {w' : World} (hc : Ch m H N w m1 H1 N1 w1) (h : Ends B n m1 H1 N1 w1 Q e a' w') : Ends B n m H N w Q e a' w' :=
  let ⟨m', H', N', env', h1, h2, h3, h4, h5⟩ := h
  ⟨m', H', N', env', h1, h2, h3, h4, hc.trans h5⟩

theorem AWp.mono {c : Code} {Q Q' : Exit → Env → Heap → Prop} {env : Env} {H : Heap} (h : AWp P n c Q env H) (hq : ∀ e env H, Q e env H → Q' e env H) : AWp P n c Q' env H :=
  fun B m N w a hS hA hn => wp_mono (h B m N w a hS hA hn) fun e a' w' ⟨m', H', N', env', h1, h2⟩ => ⟨m', H', N', env', hq _ _ _ h1, h2⟩

theorem cwp_sound (c : Code) : ∀ (Q : Exit → Env → Heap → Prop) (env : Env) (H : Heap), fits P n pl c = true → cwp P n pl c Q env H → AWp P n c Q env H := by
  induction c with
  | skip => exact fun Q env H _ h B m N w a hS hA hn => wp_skip ⟨m, H, N, env, h, hS, hA, hn, Ch.refl ..⟩
  | region id ops d =>
    intro Q env H hf h
    cases d with
    | false => exact AWp.region hf h
    | true =>
      simp only [fits, Bool.and_eq_true] at hf
      exact AWp.draw _ hf.1.2 hf.1.1 hf.2 h
  | seq x y ihx ihy =>
    intro Q env H hf h B m N w a hS hA hn
    simp only [fits, Bool.and_eq_true] at hf
    refine wp_seq (wp_mono (ihx _ env H hf.1 h B m N w a hS hA hn) fun e a' w' hE => ?_)
    obtain ⟨m', H', N', env', h1, h2, h3, h4, h5⟩ := hE
    cases e with
    | normal => exact wp_mono (ihy Q env' H' hf.2 h1 B m' N' w' a' h2 h3 h4) fun e a'' w'' hE => hE.ch h5
    | _ => exact ⟨m', H', N', env', h1, h2, h3, h4, h5⟩
  | cond c x y ihx ihy =>
    intro Q env H hf h B m N w a hS hA hn
    simp only [fits, Bool.and_eq_true] at hf
    unfold cwp at h
    split at h
    · rename_i t ht
      have hv := rel_bool (ht ▸ hA.ev c)
      refine wp_cond_split hv (fun e => ihx Q env H hf.1 (h.1 e) B m N w a hS hA hn) (fun e => ihy Q env H hf.2 (h.2 e) B m N w a hS hA hn)
    · exact h.elim
  | block id x ih =>
    intro Q env H hf h B m N w a hS hA hn
    simp only [fits] at hf
    refine wp_block (wp_mono (ih _ env H hf h B m N w a hS hA hn) fun e a' w' hE => ?_)
    obtain ⟨m', H', N', env', h1, h2⟩ := hE
    cases e with
    | exit i =>
      simp only [blockQ] at h1
      simp only [Exit.inBlock]
      split
      · rename_i hi; rw [if_pos hi] at h1; exact ⟨m', H', N', env', h1, h2⟩
      · rename_i hi; rw [if_neg hi] at h1; exact ⟨m', H', N', env', h1, h2⟩
    | _ => exact ⟨m', H', N', env', h1, h2⟩
  | loop x ih => exact fun Q env H _ h => h
  | exit id => exact fun Q env H _ h B m N w a hS hA hn => wp_exit ⟨m, H, N, env, h, hS, hA, hn, Ch.refl ..⟩
  | ret => exact fun Q env H _ h B m N w a hS hA hn => wp_ret ⟨m, H, N, env, h, hS, hA, hn, Ch.refl ..⟩
  | rangeFunc => intro Q env H hf; cases hf
  | scope => intro Q env H hf; cases hf
  | label => intro Q env H hf; cases hf
  | goto => intro Q env H hf; cases hf
  | refuse => intro Q env H hf; cases hf

/-- A loop: 'I k' holds at the head where 'k' bounds the rounds to come. -/
theorem ALoop.intro {x : Code} {Q : Exit → Env → Heap → Prop} {env : Env} {H : Heap} (I : Nat → Env → Heap → Prop) (k : Nat) (hf : fits P n pl x = true) (h0 : I k env H)
    (round : ∀ k env H, I k env H → cwp P n pl x (thenQ (fun env' H' => ∃ k', k' < k ∧ I k' env' H') Q) env H) : ALoop P n x Q env H := by
  intro B m N w a hS hA hn
  refine wp_loop_ghost (fun k a' w' => ∃ env' m' H' N', I k env' H' ∧ St B m' H' N' w' ∧ ARel m' H' N' w' env' a' ∧ a'.tmps.size = n ∧ Ch m H N w m' H' N' w') k ⟨env, m, H, N, h0, hS, hA, hn, Ch.refl ..⟩ ?_
  rintro k a1 w1 ⟨env1, m1, H1, N1, hI, hS1, hA1, hn1, hC1⟩
  refine wp_mono (cwp_sound x _ env1 H1 hf (round k env1 H1 hI) B m1 N1 w1 a1 hS1 hA1 hn1) fun e a' w' hE => ?_
  obtain ⟨m', H', N', env', h1, h2, h3, h4, h5⟩ := hE
  cases e with
  | normal =>
    obtain ⟨k', hk, hI'⟩ := h1
    exact ⟨k', hk, env', m', H', N', hI', h2, h3, h4, hC1.trans h5⟩
  | _ => exact ⟨m', H', N', env', h1, h2, h3, h4, hC1.trans h5⟩

/-! ### Functions -/
/-- What a function hands back, out of its frame. -/
def aresult1 (P : Program) (env : Env) (H : Heap) : ResultVar → (AV → Prop) → Prop
  | .tmp t, K => K (env t)
  | .cell x t, K => aload P t (env x) H K
def aresults (P : Program) (env : Env) (H : Heap) : List ResultVar → (List AV → Prop) → Prop
  | [], K => K []
  | r :: rs, K => aresult1 P env H r fun v => aresults P env H rs fun vs => K (v :: vs)
def aret (P : Program) (rs : List ResultVar) (env : Env) (H : Heap) (K : AV → Prop) : Prop :=
  aresults P env H rs fun vs => match vs with | [v] => K v | vs => K (.tup vs)
/-- The code's end: the function's. -/
def retQ (P : Program) (rs : List ResultVar) (K : AV → Heap → Prop) : Exit → Env → Heap → Prop
  | .normal, env, H => aret P rs env H fun v => K v H
  | .ret, env, H => aret P rs env H fun v => K v H
  | _, _, _ => False
/-- The frame at the start. -/
def env0 : List AV → Env := fun args t => args.getD t .dead

def rdRes (tmps : Array Value) : ResultVar → Sem Value
  | .tmp t => pure (tmps.getD t undef)
  | .cell x t => do loadVar t (← asAddr (tmps.getD x undef))
theorem results_eq (fn : Func) (tmps : Array Value) : results fn tmps = (do let vs ← fn.results.mapM (rdRes tmps); pure (if h : vs.size = 1 then vs[0] else .tuple vs)) := by
  unfold results
  have : (fun r => match r with | .tmp t => pure (tmps.getD t undef) | .cell a t => do loadVar t (← asAddr (tmps.getD a undef)) : ResultVar → Sem Value) = rdRes tmps := by
    funext r; cases r <;> rfl
  rw [← this]
  rfl

theorem aresults_run {B : Base} {m : Nat → Option (Nat × Nat)} {H : Heap} {N : Nat → Prop} {w : World} {env : Env} {a : Act} (hS : St B m H N w) (hA : ARel m H N w env a) :
    ∀ (rs : List ResultVar) (K : List AV → Prop), aresults P env H rs K →
      ∃ (us : List Value) (ys : List AV), (rs.mapM (rdRes a.tmps)).run P w = .ok us w ∧ K ys ∧ us.length = ys.length ∧
        ∀ (i : Nat) (y : AV) (u : Value), ys[i]? = some y → us[i]? = some u → Rel m H N w y u
  | [], K, h => ⟨[], [], by simp, h, rfl, by simp⟩
  | r :: rs, K, h => by
    simp only [aresults] at h
    have one : ∃ u y, (rdRes a.tmps r).run P w = .ok u w ∧ (aresults P env H rs fun vs => K (y :: vs)) ∧ Rel m H N w y u := by
      cases r with
      | tmp t => exact ⟨_, _, rfl, h, hA.tmp t⟩
      | cell x t =>
        obtain ⟨ad, u, y, hv, hr, hK, hrel⟩ := load_run (P := P) (t := t) hS (hA.tmp x) (K' := fun v => aresults P env H rs fun vs => K (v :: vs)) h
        exact ⟨u, y, by simp only [rdRes, hv, asAddr, Sem.run_bind, Sem.run_pure, Result.andThen_ok, hr], hK, hrel⟩
    obtain ⟨u, y, h1, h2, h3⟩ := one
    obtain ⟨us, ys, h4, h5, h6, h7⟩ := aresults_run hS hA rs _ h2
    refine ⟨u :: us, y :: ys, ?_, h5, by simp [h6], fun i z v hz hv => ?_⟩
    · rw [List.mapM_cons]
      simp only [Sem.run_bind, h1, Result.andThen_ok, h4, Sem.run_pure]
    · cases i with
      | zero => simp at hz hv; subst hz hv; exact h3
      | succ i => simp at hz hv; exact h7 i z v hz hv

theorem aret_run {B : Base} {m : Nat → Option (Nat × Nat)} {H : Heap} {N : Nat → Prop} {w : World} {env : Env} {a : Act} (hS : St B m H N w) (hA : ARel m H N w env a) {fn : Func} {K : AV → Prop} (h : aret P fn.results.toList env H K) :
    ∃ u y, (results fn a.tmps).run P w = .ok u w ∧ K y ∧ Rel m H N w y u := by
  obtain ⟨us, ys, h1, h2, h3, h4⟩ := aresults_run hS hA _ _ h
  have hrun : (results fn a.tmps).run P w = .ok (if h : us.toArray.size = 1 then us.toArray[0] else .tuple us.toArray) w := by
    rw [results_eq, Array.mapM_eq_mapM_toList]
    simp only [Sem.run_bind, Sem.run_map, h1, Result.andThen_ok, Sem.run_pure]
  split at h2
  · rename_i y
    obtain ⟨u, rfl⟩ : ∃ u, us = [u] := by
      cases us with
      | nil => simp at h3
      | cons u us => cases us with
        | nil => exact ⟨u, rfl⟩
        | cons => simp at h3
    exact ⟨u, y, by simpa using hrun, h2, h4 0 y u rfl rfl⟩
  · rename_i hne
    refine ⟨.tuple us.toArray, .tup ys, ?_, h2, .tup _ _ (by simpa using h3) (fun i x v h5 h6 => h4 i x v h5 (by simpa using h6))⟩
    rw [hrun]
    congr 1
    rw [dif_neg]
    intro h1
    simp at h1
    rw [h1] at h3
    obtain ⟨y, hy⟩ := List.length_eq_one_iff.1 (show ys.length = 1 by omega)
    exact hne y hy

/-- A function's contract out of its code. -/
theorem ACall.of_code {g : FuncId} {fn : Func} {c : Code} {args : List AV} {H : Heap} {K : AV → Heap → Prop} (hf : P.funcs[g]? = some fn) (hb : fn.body = some c) (hnm : (fn.name == "runtime.NumGoroutine") = false)
    (hfit : fits P fn.ntmps pl c = true) (hargs : args.length ≤ fn.ntmps) (h : cwp P fn.ntmps pl c (retQ P fn.results.toList K) (env0 args) H) : ACall P g args H K := by
  refine ⟨by simp [enters, hf, hb, hnm], fun B m N w vs hS hvs hrel => ?_⟩
  refine calls_of_wp hf hb (wp_mono (cwp_sound c _ _ _ hfit h B m N w _ hS ⟨rfl, fun t => ?_⟩ (by simp; omega)) fun e a' w' hE => ?_)
  · by_cases ht : t < args.length
    · have h1 : args[t]? = some args[t] := List.getElem?_eq_getElem ht
      have h2 : vs[t]? = some (vs[t]'(by omega)) := Array.getElem?_eq_getElem _
      have := hrel t _ _ h1 h2
      simp only [env0, List.getD_eq_getElem?_getD, h1, Option.getD_some]
      rw [Array.getD_eq_getD_getElem?, Array.getElem?_append_left (by omega), h2]
      exact this
    · have : env0 args t = .dead := by simp [env0, List.getD_eq_getElem?_getD, List.getElem?_eq_none (Nat.le_of_not_lt ht)]
      rw [this]; exact .dead _
  · obtain ⟨m', H', N', env', h1, h2, h3, h4, h5⟩ := hE
    cases e with
    | normal =>
      obtain ⟨u, y, q1, q2, q3⟩ := aret_run h2 h3 h1
      exact ⟨h3.defers, u, q1, u, m', H', N', y, rfl, q2, h2, h5, q3⟩
    | ret =>
      obtain ⟨u, y, q1, q2, q3⟩ := aret_run h2 h3 h1
      exact ⟨h3.defers, u, q1, u, m', H', N', y, rfl, q2, h2, h5, q3⟩
    | _ => exact h1.elim
end
end Go.Abs

/- The abstract machine, part L: a callee's heap inside a caller's. -/
set_option linter.unusedVariables false
set_option linter.unusedSimpArgs false
namespace Go.Abs

mutual
/-- Other names for blocks. -/
def ren (ρ : Nat → Nat) : AV → AV
  | .ref id v o l => .ref (ρ id) v o l
  | .ptr id v o => .ptr (ρ id) v o
  | .agg cs => .agg (renL ρ cs)
  | .tup cs => .tup (renL ρ cs)
  | .fn f cs => .fn f (renL ρ cs)
  | .int k n => .int k n
  | .bool b => .bool b
  | .str s => .str s
  | .nil => .nil
  | .nilp => .nilp
  | .sl sz es => .sl sz es
  | .adr x => .adr x
  | .dead => .dead
def renL (ρ : Nat → Nat) : List AV → List AV
  | [] => []
  | a :: l => ren ρ a :: renL ρ l
end
mutual
/-- All references lead into blocks of 'L'; of each frozen slice 'q' holds. -/
def within (L : Nat → Bool) (q : AV → Bool) : AV → Bool
  | .ref id _ _ _ => L id
  | .ptr id _ _ => L id
  | .agg cs => withinL L q cs
  | .tup cs => withinL L q cs
  | .fn _ cs => withinL L q cs
  | .int _ _ => true
  | .bool _ => true
  | .str _ => true
  | .nil => true
  | .nilp => true
  | .sl sz es => q (.sl sz es)
  | .adr x => q (.adr x)
  | .dead => true
def withinL (L : Nat → Bool) (q : AV → Bool) : List AV → Bool
  | [] => true
  | a :: l => within L q a && withinL L q l
end

theorem renL_get (ρ : Nat → Nat) : ∀ (l : List AV) (i : Nat), (renL ρ l)[i]? = (l[i]?).map (ren ρ)
  | [], i => by simp [renL]
  | a :: l, 0 => by simp [renL]
  | a :: l, i + 1 => by simp [renL, renL_get ρ l i]
theorem renL_length (ρ : Nat → Nat) : ∀ l : List AV, (renL ρ l).length = l.length
  | [] => rfl
  | a :: l => by simp [renL, renL_length ρ l]
theorem withinL_get {L : Nat → Bool} {q : AV → Bool} : ∀ {l : List AV}, withinL L q l = true → ∀ {i : Nat} {x : AV}, l[i]? = some x → within L q x = true
  | [], _, i, x, h => by simp at h
  | a :: l, h, 0, x, hx => by simp [withinL] at h hx; rw [← hx]; exact h.1
  | a :: l, h, i + 1, x, hx => by simp [withinL] at h hx; exact withinL_get h.2 hx
theorem renL_map (ρ : Nat → Nat) : ∀ l : List AV, renL ρ l = l.map (ren ρ)
  | [] => rfl
  | a :: l => by simp [renL, renL_map ρ l]
theorem withinL_all (L : Nat → Bool) (q : AV → Bool) : ∀ l : List AV, withinL L q l = l.all (within L q)
  | [] => rfl
  | a :: l => by simp [withinL, withinL_all L q l]

def Blk.ren (ρ : Nat → Nat) : Blk → Blk
  | .gone v => .gone v
  | .cells v T sz cs => .cells v T sz (renL ρ cs)
theorem Blk.ren_ver (ρ : Nat → Nat) (b : Blk) : (b.ren ρ).ver = b.ver := by cases b <;> rfl

/-- The same values, the blocks of 'L' by other names. -/
theorem Rel.move {m m2 : Nat → Option (Nat × Nat)} {H H2 : Heap} {N : Nat → Prop} {w : World} {ρ : Nat → Nat} {L : Nat → Bool} {q : AV → Bool} (hm : ∀ i, L i = true → m2 (ρ i) = m i) (hH : ∀ i, L i = true → H2 (ρ i) = (H i).ren ρ)
    {a : AV} {v : Value} (h : Rel m H N w a v) (ha : within L q a = true) : Rel m2 H2 N w (ren ρ a) v := by
  induction h with
  | fz h => cases h with
    | agg cs vs hn hr =>
      simp only [ren]
      refine .agg _ vs (by rw [renL_length]; exact hn) fun i x v h1 h2 => ?_
      rw [renL_get] at h1
      cases hc : cs[i]? with
      | none => rw [hc] at h1; cases h1
      | some y =>
        rw [hc] at h1; injection h1 with h1; subst h1
        have := hr i y v hc h2
        have e : ∀ {y : AV} {v : Value}, FRel N w y v → within L q y = true → Rel m2 H2 N w (ren ρ y) v := by
          intro y v hy hw
          induction hy with
          | agg cs vs hn hr ih =>
            simp only [ren]
            refine .agg _ vs (by rw [renL_length]; exact hn) fun i x v h1 h2 => ?_
            rw [renL_get] at h1
            cases hc : cs[i]? with
            | none => rw [hc] at h1; cases h1
            | some y =>
              rw [hc] at h1; injection h1 with h1; subst h1
              exact ih i y v hc h2 (withinL_get (by simpa [within] using hw) hc)
          | int k n => exact .fz (.int k n)
          | bool b => exact .fz (.bool b)
          | str s => exact .fz (.str s)
          | nil => exact .fz .nil
          | nilp => exact .fz .nilp
          | sl0 sz A c => exact .fz (.sl0 sz A c)
          | sl sz es b o c f a1 a2 a3 a4 a5 a6 a7 => exact .fz (.sl sz es b o c f a1 a2 a3 a4 a5 a6 a7)
          | adr x b o f a1 a2 a3 a4 => exact .fz (.adr x b o f a1 a2 a3 a4)
        exact e this (withinL_get (by simpa [within] using ha) hc)
    | int k n => exact .fz (.int k n)
    | bool b => exact .fz (.bool b)
    | str s => exact .fz (.str s)
    | nil => exact .fz .nil
    | nilp => exact .fz .nilp
    | sl0 sz A c => exact .fz (.sl0 sz A c)
    | sl sz es b o c f a1 a2 a3 a4 a5 a6 a7 => exact .fz (.sl sz es b o c f a1 a2 a3 a4 a5 a6 a7)
    | adr x b o f a1 a2 a3 a4 => exact .fz (.adr x b o f a1 a2 a3 a4)
  | agg cs vs hn hr ih =>
    simp only [ren]
    refine .agg _ vs (by rw [renL_length]; exact hn) fun i x v h1 h2 => ?_
    rw [renL_get] at h1
    cases hc : cs[i]? with
    | none => rw [hc] at h1; cases h1
    | some y => rw [hc] at h1; injection h1 with h1; subst h1; exact ih i y v hc h2 (withinL_get (by simpa [within] using ha) hc)
  | tup cs vs hn hr ih =>
    simp only [ren]
    refine .tup _ vs (by rw [renL_length]; exact hn) fun i x v h1 h2 => ?_
    rw [renL_get] at h1
    cases hc : cs[i]? with
    | none => rw [hc] at h1; cases h1
    | some y => rw [hc] at h1; injection h1 with h1; subst h1; exact ih i y v hc h2 (withinL_get (by simpa [within] using ha) hc)
  | fn f cs vs hn hr ih =>
    simp only [ren]
    refine .fn f _ vs (by rw [renL_length]; exact hn) fun i x v h1 h2 => ?_
    rw [renL_get] at h1
    cases hc : cs[i]? with
    | none => rw [hc] at h1; cases h1
    | some y => rw [hc] at h1; injection h1 with h1; subst h1; exact ih i y v hc h2 (withinL_get (by simpa [within] using ha) hc)
  | ref id ver off len v ho hv h =>
    simp only [ren]
    have hl : L id = true := by simpa [within] using ha
    refine .ref _ _ _ _ _ ho (by rw [hH id hl, Blk.ren_ver]; exact hv) fun T sz cs hc => ?_
    rw [hH id hl] at hc
    rw [hm id hl]
    cases hb : H id with
    | gone v0 => rw [hb] at hc; cases hc
    | cells v0 T0 sz0 cs0 =>
      rw [hb] at hc
      simp only [Blk.ren, Blk.cells.injEq] at hc
      obtain ⟨rfl, rfl, rfl, _⟩ := hc
      exact h _ _ _ hb
  | ptr id ver off v ho hv h =>
    simp only [ren]
    have hl : L id = true := by simpa [within] using ha
    refine .ptr _ _ _ _ ho (by rw [hH id hl, Blk.ren_ver]; exact hv) fun T sz cs hc b sh hb2 => ?_
    rw [hH id hl] at hc
    rw [hm id hl] at hb2
    cases hb : H id with
    | gone v0 => rw [hb] at hc; cases hc
    | cells v0 T0 sz0 cs0 =>
      rw [hb] at hc
      simp only [Blk.ren, Blk.cells.injEq] at hc
      obtain ⟨rfl, rfl, rfl, _⟩ := hc
      exact h _ _ _ hb b sh hb2
  | dead v => exact .dead v
mutual
theorem ren_ren (ρ ρ' : Nat → Nat) {L : Nat → Bool} {q : AV → Bool} (h : ∀ i, L i = true → ρ' (ρ i) = i) : ∀ a : AV, within L q a = true → ren ρ' (ren ρ a) = a
  | .ref id v o l, ha => by simp only [ren]; rw [h id (by simpa [within] using ha)]
  | .ptr id v o, ha => by simp only [ren]; rw [h id (by simpa [within] using ha)]
  | .agg cs, ha => by simp only [ren]; rw [renL_renL ρ ρ' h cs (by simpa [within] using ha)]
  | .tup cs, ha => by simp only [ren]; rw [renL_renL ρ ρ' h cs (by simpa [within] using ha)]
  | .fn f cs, ha => by simp only [ren]; rw [renL_renL ρ ρ' h cs (by simpa [within] using ha)]
  | .int k n, _ => by simp only [ren]
  | .bool b, _ => by simp only [ren]
  | .str s, _ => by simp only [ren]
  | .nil, _ => by simp only [ren]
  | .nilp, _ => by simp only [ren]
  | .sl sz es, _ => by simp only [ren]
  | .adr x, _ => by simp only [ren]
  | .dead, _ => by simp only [ren]
theorem renL_renL (ρ ρ' : Nat → Nat) {L : Nat → Bool} {q : AV → Bool} (h : ∀ i, L i = true → ρ' (ρ i) = i) : ∀ l : List AV, withinL L q l = true → renL ρ' (renL ρ l) = l
  | [], _ => rfl
  | a :: l, hl => by
    simp only [withinL, Bool.and_eq_true] at hl
    simp only [renL]; rw [ren_ren ρ ρ' h a hl.1, renL_renL ρ ρ' h l hl.2]
end
mutual
theorem within_ren (ρ : Nat → Nat) {L L' : Nat → Bool} {q : AV → Bool} (h : ∀ i, L i = true → L' (ρ i) = true) : ∀ a : AV, within L q a = true → within L' q (ren ρ a) = true
  | .ref id v o l, ha => by simp only [ren, within] at *; exact h id ha
  | .ptr id v o, ha => by simp only [ren, within] at *; exact h id ha
  | .agg cs, ha => by simp only [ren, within] at *; exact withinL_ren ρ h cs ha
  | .tup cs, ha => by simp only [ren, within] at *; exact withinL_ren ρ h cs ha
  | .fn f cs, ha => by simp only [ren, within] at *; exact withinL_ren ρ h cs ha
  | .int k n, _ => by simp only [ren, within]
  | .bool b, _ => by simp only [ren, within]
  | .str s, _ => by simp only [ren, within]
  | .nil, _ => by simp only [ren, within]
  | .nilp, _ => by simp only [ren, within]
  | .sl sz es, ha => by simpa only [ren, within] using ha
  | .adr x, ha => by simpa only [ren, within] using ha
  | .dead, _ => by simp only [ren, within]
theorem withinL_ren (ρ : Nat → Nat) {L L' : Nat → Bool} {q : AV → Bool} (h : ∀ i, L i = true → L' (ρ i) = true) : ∀ l : List AV, withinL L q l = true → withinL L' q (renL ρ l) = true
  | [], _ => rfl
  | a :: l, hl => by
    simp only [withinL, Bool.and_eq_true] at hl
    simp only [renL, withinL, Bool.and_eq_true]
    exact ⟨within_ren ρ h a hl.1, withinL_ren ρ h l hl.2⟩
end

/-- No memory behind it. -/
def AV.plain : AV → Bool
  | .int _ _ | .bool _ | .str _ | .nil | .nilp => true
  | _ => false
def AV.froz : AV → Bool
  | .int _ _ | .bool _ | .str _ | .nil | .nilp | .sl _ _ | .adr _ => true
  | _ => false
/-- Nothing is asked. -/
def anyAV : AV → Bool := fun _ => true

/-- The second value is the first, the blocks of 'β' being read as they stand and written no more. -/
inductive FRes (H : Heap) (β : Nat → Bool) (q : AV → Bool) : AV → AV → Prop
  | nil (sz : Nat) : FRes H β q .nil (.sl sz [])
  | same (a : AV) : a.froz = true → within (fun _ => false) q a = true → FRes H β q a a
  | ref (id ver off len : Nat) (T : TypeId) (sz : Nat) (cs es : List AV) : β id = true → H id = .cells ver T sz cs → es.length = len → off + len * sz ≤ cs.length →
      (∀ (j : Nat) (e : AV), es[j]? = some e → (flat e).length = sz) → (∀ (k : Nat) (x y : AV), cs[off + k]? = some x → (es.flatMap flat)[k]? = some y → FRes H β q x y) → FRes H β q (.ref id ver off len) (.sl sz es)
  | agg (cs ds : List AV) : ds.length = cs.length → (∀ (i : Nat) (x y : AV), cs[i]? = some x → ds[i]? = some y → FRes H β q x y) → FRes H β q (.agg cs) (.agg ds)

theorem flat_get {sz : Nat} : ∀ {es : List AV}, (∀ (j : Nat) (e : AV), es[j]? = some e → (flat e).length = sz) → ∀ {j i : Nat} {e y : AV}, es[j]? = some e → (flat e)[i]? = some y → (es.flatMap flat)[j * sz + i]? = some y
  | [], _, j, i, e, y, h, _ => by simp at h
  | e0 :: es, hs, 0, i, e, y, h, hy => by
    simp at h; subst h
    have := (List.getElem?_eq_some_iff.1 hy).1
    rw [List.flatMap_cons, Nat.zero_mul, Nat.zero_add, List.getElem?_append_left this]; exact hy
  | e0 :: es, hs, j + 1, i, e, y, h, hy => by
    have h0 := hs 0 e0 rfl
    have := flat_get (es := es) (fun j e he => hs (j + 1) e (by simpa using he)) (j := j) (i := i) (by simpa using h) hy
    rw [List.flatMap_cons, List.getElem?_append_right (by rw [h0, Nat.add_mul]; omega), h0, show (j + 1) * sz + i - sz = j * sz + i from by rw [Nat.add_mul]; omega]
    exact this
theorem flat_len {sz : Nat} : ∀ {es : List AV}, (∀ (j : Nat) (e : AV), es[j]? = some e → (flat e).length = sz) → (es.flatMap flat).length = es.length * sz
  | [], _ => by simp
  | e0 :: es, hs => by
    rw [List.flatMap_cons, List.length_append, List.length_cons, Nat.add_mul, flat_len (es := es) (fun j e he => hs (j + 1) e (by simpa using he)), hs 0 e0 rfl]
    omega

theorem FRes.rel {B : Base} {m : Nat → Option (Nat × Nat)} {H : Heap} {N N2 : Nat → Prop} {w : World} (hS : St B m H N w) {β : Nat → Bool} {q : AV → Bool}
    (h1 : ∀ a v, within (fun _ => false) q a = true → a.froz = true → FRel N w a v → FRel N2 w a v) (h2 : ∀ j v T sz cs b sh, β j = true → H j = .cells v T sz cs → m j = some (b, sh) → ¬ N2 b)
    {a a' : AV} (h : FRes H β q a a') : ∀ {v : Value}, Rel m H N w a v → FRel N2 w a' v := by
  induction h with
  | nil sz =>
    intro v hr
    have hv : v = .slice none 0 0 := by cases hr with | fz h => cases h; rfl
    rw [hv]; exact .sl0 ..
  | same a hf hw =>
    intro v hr
    cases hr with
    | fz hr => exact h1 a v hw hf hr
    | _ => cases hf
  | ref id ver off len T sz cs es hβ hH hl hle hsz hr ih =>
    intro v hv
    have hfl := flat_len hsz
    rcases rel_ref hv hH with ⟨hl0, A, rfl⟩ | ⟨b, sh, cap, c, T', z, hm, rfl, hcap, hb, hfit⟩
    · have : es = [] := List.eq_nil_of_length_eq_zero (by omega)
      subst this; exact .sl0 ..
    · by_cases h0 : es = []
      · subst h0
        have : len = 0 := by simpa using hl.symm
        subst this; exact .sl0 ..
      · obtain ⟨_, _, c', g1, g2, g3⟩ := hS.own id ver T sz cs b sh hH hm
        rw [g1] at hb; injection hb with hb; injection hb with e1; subst e1
        subst hl
        have hblt : b < w.heap.size := (Array.getElem?_eq_some_iff.1 g1).1
        -- the cell of an element
        have cell : ∀ (j : Nat) (e : AV) (i : Nat) (x : AV), es[j]? = some e → (flat e)[i]? = some x → ∃ u, c'[sh + (off + (j * sz + i))]? = some u ∧ FRel N2 w x u := by
          intro j e i x he hx
          have hy := flat_get hsz he hx
          have hlt := (List.getElem?_eq_some_iff.1 hy).1
          have hlt2 : off + (j * sz + i) < cs.length := by omega
          have hu : c'[sh + (off + (j * sz + i))]? = some (c'[sh + (off + (j * sz + i))]'(by omega)) := Array.getElem?_eq_getElem _
          have hcs : cs[off + (j * sz + i)]? = some cs[off + (j * sz + i)] := List.getElem?_eq_getElem hlt2
          exact ⟨_, hu, ih _ _ _ hcs hy (g3 _ _ _ hcs hu)⟩
        refine .sl sz es b (sh + off) cap (fun j i => (c'[sh + (off + (j * sz + i))]?).getD undef) (h2 id ver T sz cs b sh hβ hH hm) hblt h0 hcap hsz (fun j e i x he hx => ?_) (fun j e i x he hx => ?_)
        · obtain ⟨u, hu, _⟩ := cell j e i x he hx
          rw [hu, Option.getD_some, ← hu]
          simp only [World.cell?, g1]
          rw [Nat.add_assoc]; rfl
        · obtain ⟨u, hu, hx2⟩ := cell j e i x he hx
          rw [hu]; exact hx2
  | agg cs ds hl hr ih =>
    intro v hv
    obtain ⟨vs, rfl, hn, hc⟩ := rel_agg hv
    refine .agg ds vs (by omega) fun i y u h3 h4 => ?_
    have hi := (List.getElem?_eq_some_iff.1 h3).1
    have hcs : cs[i]? = some (cs[i]'(by omega)) := List.getElem?_eq_getElem _
    exact ih i _ y hcs h3 (hc i _ u hcs h4)
end Go.Abs

/- The abstract machine, part M: a call, the callee's heap inside the caller's. -/
set_option linter.unusedVariables false
set_option linter.unusedSimpArgs false
namespace Go.Abs

/-- A result: what is made by the callee is frozen, what it was handed stays. -/
inductive Res (L : Nat → Bool) (q : AV → Bool) (H : Heap) : AV → AV → Prop
  | keep (a : AV) : within L q a = true → Res L q H a a
  | frz (a a' : AV) : FRes H (fun j => !L j) q a a' → Res L q H a a'
  | tup (cs ds : List AV) : ds.length = cs.length → (∀ (i : Nat) (x y : AV), cs[i]? = some x → ds[i]? = some y → Res L q H x y) → Res L q H (.tup cs) (.tup ds)
  | agg (cs ds : List AV) : ds.length = cs.length → (∀ (i : Nat) (x y : AV), cs[i]? = some x → ds[i]? = some y → Res L q H x y) → Res L q H (.agg cs) (.agg ds)

/-- An argument as the callee sees it. -/
inductive View (H : Heap) (L : Nat → Bool) (ρ : Nat → Nat) (β : Nat → Bool) : AV → AV → Prop
  | ren (a : AV) : within L anyAV a = true → View H L ρ β (ren ρ a) a
  | frz (a a' : AV) : FRes H β anyAV a a' → View H L ρ β a a'
  | nil (sz : Nat) : View H L ρ β .nil (.sl sz [])
  | agg (cs ds : List AV) : ds.length = cs.length → (∀ (i : Nat) (x y : AV), cs[i]? = some x → ds[i]? = some y → View H L ρ β x y) → View H L ρ β (.agg cs) (.agg ds)
inductive Views (H : Heap) (L : Nat → Bool) (ρ : Nat → Nat) (β : Nat → Bool) : List AV → List AV → Prop
  | nil : Views H L ρ β [] []
  | cons (a a' : AV) (l l' : List AV) : View H L ρ β a a' → Views H L ρ β l l' → Views H L ρ β (a :: l) (a' :: l')

theorem Views.length {H : Heap} {L : Nat → Bool} {ρ : Nat → Nat} {β : Nat → Bool} {l l' : List AV} (h : Views H L ρ β l l') : l'.length = l.length := by
  induction h with
  | nil => rfl
  | cons a a' l l' _ _ ih => simp [ih]
theorem Views.get {H : Heap} {L : Nat → Bool} {ρ : Nat → Nat} {β : Nat → Bool} {l l' : List AV} (h : Views H L ρ β l l') : ∀ {i : Nat} {x y : AV}, l[i]? = some x → l'[i]? = some y → View H L ρ β x y := by
  induction h with
  | nil => intro i x y h; simp at h
  | cons a a' l l' h1 _ ih =>
    intro i x y h2 h3
    cases i with
    | zero => simp at h2 h3; subst h2 h3; exact h1
    | succ i => simp at h2 h3; exact ih h2 h3

/-- The caller's heap behind the call. -/
def lookL (ρ : Nat → Nat) (L : List Nat) (id : Nat) : Option Nat := L.find? fun i => ρ i == id
def joinH (ρ : Nat → Nat) (L : List Nat) (δ : Nat → Bool) (H' H : Heap) : Heap := fun id =>
  match lookL ρ L id with
  | some i => (H' i).ren ρ
  | none => if δ id then .gone ((H id).ver + 1) else H id

theorem FRes.ren_id {H : Heap} {β : Nat → Bool} {q : AV → Bool} {a a' : AV} (h : FRes H β q a a') (ρ : Nat → Nat) : ren ρ a' = a' := by
  induction h with
  | nil sz => rfl
  | same a hf _ => cases a <;> first | rfl | cases hf
  | ref => rfl
  | agg cs ds hl hr ih =>
    simp only [ren]
    congr 1
    apply List.ext_getElem?
    intro i
    rw [renL_get]
    cases hd : ds[i]? with
    | none => rfl
    | some y =>
      have hi := (List.getElem?_eq_some_iff.1 hd).1
      have hc : cs[i]? = some (cs[i]'(by omega)) := List.getElem?_eq_getElem _
      simp only [Option.map_some]
      rw [ih i _ y hc hd]

theorem FRel.sub {N N' : Nat → Prop} {w : World} (hn : ∀ b, N' b → N b) {a : AV} {v : Value} (h : FRel N w a v) : FRel N' w a v := h.keeps (Keeps.refl N w) (fun b _ h => hn b h)
theorem Rel.sub {m : Nat → Option (Nat × Nat)} {H : Heap} {N N' : Nat → Prop} {w : World} (hn : ∀ b, N' b → N b) {a : AV} {v : Value} (h : Rel m H N w a v) : Rel m H N' w a v :=
  h.ch ⟨fun a v hf => hf.sub hn, fun _ => Nat.le_refl _, fun id ver T sz cs hl => .inr ⟨⟨T, cs, hl⟩, rfl, fun b sh _ c T1 z hb => ⟨c, T1, z, hb, rfl⟩⟩⟩
/-- Values that hold no frozen slice do not ask which memory is whose. -/
theorem FRel.noN {N N' : Nat → Prop} {w : World} {L : Nat → Bool} {q : AV → Bool} (hq : ∀ a, q a = false) {a : AV} {v : Value} (h : FRel N w a v) : within L q a = true → FRel N' w a v := by
  induction h with
  | int k n => exact fun _ => .int k n
  | bool b => exact fun _ => .bool b
  | str s => exact fun _ => .str s
  | nil => exact fun _ => .nil
  | nilp => exact fun _ => .nilp
  | sl0 sz A c => exact fun _ => .sl0 sz A c
  | sl => intro h; simp [within, hq] at h
  | adr => intro h; simp [within, hq] at h
  | agg cs vs hn hr ih => exact fun h => .agg cs vs hn fun i x v h1 h2 => ih i x v h1 h2 (withinL_get (by simpa [within] using h) h1)
theorem Rel.noN {m : Nat → Option (Nat × Nat)} {H : Heap} {N N' : Nat → Prop} {w : World} {L : Nat → Bool} {q : AV → Bool} (hq : ∀ a, q a = false) {a : AV} {v : Value} (h : Rel m H N w a v) : within L q a = true → Rel m H N' w a v := by
  induction h with
  | fz h => exact fun hw => .fz (h.noN hq hw)
  | agg cs vs hn hr ih => exact fun h => .agg cs vs hn fun i x v h1 h2 => ih i x v h1 h2 (withinL_get (by simpa [within] using h) h1)
  | tup cs vs hn hr ih => exact fun h => .tup cs vs hn fun i x v h1 h2 => ih i x v h1 h2 (withinL_get (by simpa [within] using h) h1)
  | fn f cs vs hn hr ih => exact fun h => .fn f cs vs hn fun i x v h1 h2 => ih i x v h1 h2 (withinL_get (by simpa [within] using h) h1)
  | ref id ver off len v ho hv h => exact fun _ => .ref id ver off len v ho hv h
  | ptr id ver off v ho hv h => exact fun _ => .ptr id ver off v ho hv h
  | dead v => exact fun _ => .dead v

def liveOf (b : Blk) (p : Option (Nat × Nat)) : Option (Nat × Nat) := match b with
  | .cells _ _ _ _ => p
  | .gone _ => none
theorem liveOf_some {b : Blk} {p : Option (Nat × Nat)} {x : Nat × Nat} (h : liveOf b p = some x) : (∃ v T sz cs, b = .cells v T sz cs) ∧ p = some x := by
  cases b with
  | gone v => cases h
  | cells v T sz cs => exact ⟨⟨v, T, sz, cs, rfl⟩, h⟩

theorem ACall.lift {P : Program} {g : FuncId} {args' : List AV} {Hc : Heap} {R : AV → Heap → Prop} (h : ACall P g args' Hc R) (L : List Nat) (ρ : Nat → Nat) (β δ : Nat → Bool) (q : AV → Bool) {args : List AV} {H : Heap} {K : AV → Heap → Prop}
    (hL : ∀ i ∈ L, 1000000 ≤ i) (hinj : ∀ i ∈ L, ∀ j ∈ L, ρ i = ρ j → i = j) (hH : ∀ i ∈ L, H (ρ i) = (Hc i).ren ρ)
    (hwc : ∀ i ∈ L, ∀ v T sz cs, Hc i = .cells v T sz cs → withinL (L.contains ·) anyAV cs = true) (hgone : ∀ i v T sz cs, Hc i = .cells v T sz cs → i ∈ L)
    (hβ : ∀ i ∈ L, β (ρ i) = false) (hδ : ∀ j, δ j = true → j < 1000000) (hδβ : ∀ i ∈ L, δ (ρ i) = false) (hq : (∀ j, β j = true → δ j = true) ∨ ∀ a, q a = false)
    (hargs : Views H (L.contains ·) ρ β args args')
    (hK : ∀ r' H', R r' H' → ∃ r, Res (L.contains ·) q H' r' r ∧ (∀ i ∈ L, ∀ v T sz cs, H' i = .cells v T sz cs → withinL (L.contains ·) q cs = true) ∧ K (ren ρ r) (joinH ρ L δ H' H)) :
    ACall P g args H K := by
  obtain ⟨hent, h⟩ := h
  refine ⟨hent, fun B m N w vs hS hvs hrel => ?_⟩
  have hcon : ∀ i, (L.contains i = true) ↔ i ∈ L := fun i => by simp
  -- names back
  have look : ∀ i ∈ L, lookL ρ L (ρ i) = some i := fun i hi => by
    unfold lookL
    cases hf : L.find? (fun k => ρ k == ρ i) with
    | none => have := List.find?_eq_none.1 hf i hi; simp at this
    | some k =>
      have h1 := List.find?_some hf
      have h2 := List.mem_of_find?_eq_some hf
      rw [hinj k h2 i hi (by simpa using h1)]
  have lookM : ∀ id i, lookL ρ L id = some i → i ∈ L ∧ ρ i = id := fun id i hf => ⟨List.mem_of_find?_eq_some hf, by have := List.find?_some hf; simpa using this⟩
  have lookN : ∀ id, lookL ρ L id = none → ∀ i ∈ L, ρ i ≠ id := fun id hf i hi => by have := List.find?_eq_none.1 hf i hi; simpa using this
  let ρ' : Nat → Nat := fun j => (lookL ρ L j).getD 0
  have back : ∀ i, L.contains i = true → ρ' (ρ i) = i := fun i hi => by simp [ρ', look i ((hcon i).1 hi)]
  let L' : Nat → Bool := fun j => (lookL ρ L j).isSome
  let mc : Nat → Option (Nat × Nat) := fun i => if i ∈ L then m (ρ i) else none
  let Nc : Nat → Prop := fun b => N b ∧ ¬ ∃ j v T sz cs sh, β j = true ∧ H j = .cells v T sz cs ∧ m j = some (b, sh)
  let Sc : Nat → Prop := fun b => ∃ i, i ∈ L ∧ ∃ v T sz cs sh, Hc i = .cells v T sz cs ∧ m (ρ i) = some (b, sh)
  let mo : Nat → Option (Nat × Nat) := fun i => liveOf (Hc i) (mc i)
  let Bc : Base := ⟨w, Sc, Nc, mo⟩
  have live : ∀ i ∈ L, ∀ v T sz cs, Hc i = .cells v T sz cs → H (ρ i) = .cells v T sz (renL ρ cs) := fun i hi v T sz cs hc => by rw [hH i hi, hc]; rfl
  -- a value of the caller's as the callee names it
  have toC : ∀ {a : AV} {v : Value}, within (L.contains ·) anyAV a = true → Rel m H N w (ren ρ a) v → Rel mc Hc Nc w a v := fun {a v} ha hr => by
    have := Rel.move (m2 := mc) (H2 := Hc) (ρ := ρ') (L := L') (q := anyAV) (fun j hj => by
        obtain ⟨i, hi⟩ := Option.isSome_iff_exists.1 hj
        obtain ⟨h1, h2⟩ := lookM j i hi
        simp [ρ', hi, mc, h1, h2]) (fun j hj => by
        obtain ⟨i, hi⟩ := Option.isSome_iff_exists.1 hj
        obtain ⟨h1, h2⟩ := lookM j i hi
        simp only [ρ', hi, Option.getD_some]
        rw [← h2, hH i h1]
        cases hc : Hc i with
        | gone v0 => rfl
        | cells v0 T0 sz0 cs0 => simp only [Blk.ren]; rw [renL_renL ρ ρ' back cs0 (hwc i h1 _ _ _ _ hc)]) hr (within_ren ρ (L' := L') (fun i hi => by simp [L', look i ((hcon i).1 hi)]) a ha)
    rw [ren_ren ρ ρ' back a ha] at this
    exact this.sub (fun b hb => hb.1)
  have hSc : St Bc mc Hc Nc w := by
    refine ⟨Keeps.refl _ w, fun b hb => hS.nlt b hb.1, fun b hb => hb, fun b hb => hS.nlt b hb.1, fun b hb => .inl hb, fun i v T sz cs b sh hi hc hm => ?_, fun i v T sz cs b sh hc hm => ?_, fun i j b s1 s2 hi hj li lj => ?_, fun i v T sz cs b sh hc hm => ?_, fun i v T sz cs hc hm => ?_⟩
    · exact absurd (hL i (hgone i v T sz cs hc)) (by omega)
    · refine .inl ⟨sh, ?_⟩
      show liveOf (Hc i) (mc i) = some (b, sh)
      rw [hc]; exact hm
    · obtain ⟨v1, T1, z1, c1, li⟩ := li
      obtain ⟨v2, T2, z2, c2, lj⟩ := lj
      have h1 := hgone _ _ _ _ _ li
      have h2 := hgone _ _ _ _ _ lj
      simp only [mc, h1, h2, if_true] at hi hj
      exact hinj i h1 j h2 (hS.inj _ _ b s1 s2 hi hj ⟨_, _, _, _, live i h1 _ _ _ _ li⟩ ⟨_, _, _, _, live j h2 _ _ _ _ lj⟩)
    · have h1 := hgone _ _ _ _ _ hc
      have hl := live i h1 _ _ _ _ hc
      simp only [mc, h1, if_true] at hm
      obtain ⟨a1, a2, c, a3, a4, a5⟩ := hS.own _ _ _ _ _ b sh hl hm
      refine ⟨⟨a1, ?_⟩, .inl ⟨i, h1, _, _, _, _, sh, hc, hm⟩, c, a3, by rw [renL_length] at a4; exact a4, fun j x u hx hu => ?_⟩
      · rintro ⟨j, v2, T2, z2, c2, sh2, hb2, hj2, hm2⟩
        have := hS.inj _ _ b sh sh2 hm hm2 ⟨_, _, _, _, hl⟩ ⟨_, _, _, _, hj2⟩
        rw [← this, hβ i h1] at hb2
        cases hb2
      · exact toC (withinL_get (hwc i h1 _ _ _ _ hc) hx) (a5 j (ren ρ x) u (by rw [renL_get, hx]; rfl) hu)
    · have h1 := hgone _ _ _ _ _ hc
      have hl := live i h1 _ _ _ _ hc
      simp only [mc, h1, if_true] at hm
      have := hS.virt _ _ _ _ _ hl hm
      cases cs with
      | nil => rfl
      | cons x l => simp [renL] at this
  have hview : ∀ {a a' : AV}, View H (L.contains ·) ρ β a a' → ∀ {v : Value}, Rel m H N w a v → Rel mc Hc Nc w a' v := by
    intro a a' hv
    induction hv with
    | ren a ha => exact fun hr => toC ha hr
    | frz a a' hf =>
      exact fun hr => .fz (hf.rel hS (fun a v _ _ hfr => hfr.sub (fun b hb => hb.1)) (fun j v T sz cs b sh hb hj hm hn => hn.2 ⟨j, v, T, sz, cs, sh, hb, hj, hm⟩) hr)
    | nil sz => intro v hr; rw [rel_nil hr]; exact .fz (.sl0 ..)
    | agg cs ds hl hr ih =>
      intro v hv
      obtain ⟨us, rfl, hn, hc⟩ := rel_agg hv
      refine .agg ds us (by omega) fun i y u h3 h4 => ?_
      have hi := (List.getElem?_eq_some_iff.1 h3).1
      have hcs : cs[i]? = some (cs[i]'(by omega)) := List.getElem?_eq_getElem _
      exact ih i _ y hcs h3 (hc i _ u hcs h4)
  refine (h Bc mc Nc w vs hSc (by rw [hvs, hargs.length]) (fun i x v hx hv => ?_)).mono fun e w1 => ?_
  · have hi := (List.getElem?_eq_some_iff.1 hx).1
    have hlen := hargs.length
    have ha : args[i]? = some (args[i]'(by omega)) := List.getElem?_eq_getElem _
    exact hview (hargs.get ha hx) (hrel i _ v ha hv)
  rintro ⟨v, m1, H1, N1, x, rfl, hR, hS1, hC1, hx⟩
  obtain ⟨r, hres, hcells, hKr⟩ := hK x H1 hR
  let Lb : Nat → Prop := fun b => ∃ i, i ∈ L ∧ ∃ v T sz cs sh, H1 i = .cells v T sz cs ∧ m1 i = some (b, sh)
  let N2 : Nat → Prop := fun b => (N b ∧ ¬ ∃ j v T sz cs sh, δ j = true ∧ H j = .cells v T sz cs ∧ m j = some (b, sh)) ∨ Lb b
  let m2 : Nat → Option (Nat × Nat) := fun id => match lookL ρ L id with | some i => m1 i | none => m id
  let H2 : Heap := joinH ρ L δ H1 H
  have hF2 : ∀ b, Bc.S b → N b ∧ (B.S b ∨ B.w0.heap.size ≤ b) := fun b ⟨i, hi, v, T, sz, cs, sh, hc, hm⟩ => by
    obtain ⟨a1, a2, _⟩ := hS.own _ _ _ _ _ b sh (live i hi _ _ _ _ hc) hm
    exact ⟨a1, a2⟩
  have hF4 : ∀ b, Lb b → N1 b ∧ (Bc.S b ∨ w.heap.size ≤ b) := fun b ⟨i, hi, v, T, sz, cs, sh, hc, hm⟩ => by
    obtain ⟨a1, a2, _⟩ := hS1.own _ _ _ _ _ b sh hc hm
    exact ⟨a1, a2⟩
  have hF3 : ∀ b, b < w.heap.size → N2 b → N b := fun b hb hn => by
    rcases hn with hn | hn
    · exact hn.1
    · rcases (hF4 b hn).2 with h1 | h1
      · exact (hF2 b h1).1
      · omega
  have hKN : Keeps N w w1 := hS1.keep.mono fun b hb => (hF2 b hb).1
  -- where a block of the callee's comes from
  have horig : ∀ i v T sz cs b sh, H1 i = .cells v T sz cs → m1 i = some (b, sh) → (i ∈ L ∧ (∃ v' T' sz' cs', H (ρ i) = .cells v' T' sz' cs') ∧ ∃ sh0, m (ρ i) = some (b, sh0)) ∨ w.heap.size ≤ b := fun i v T sz cs b sh hc hm => by
    rcases hS1.orig i v T sz cs b sh hc hm with ⟨sh0, h1⟩ | h1
    · obtain ⟨⟨v0, T0, sz0, cs0, hci⟩, h2⟩ := liveOf_some h1
      have hi := hgone _ _ _ _ _ hci
      have h3 : m (ρ i) = some (b, sh0) := by
        have : mc i = m (ρ i) := by simp [mc, hi]
        rw [← this]; exact h2
      exact .inl ⟨hi, ⟨_, _, _, _, live i hi _ _ _ _ hci⟩, sh0, h3⟩
    · exact .inr h1
  have hlook1 : ∀ id i, lookL ρ L id = some i → m2 id = m1 i ∧ H2 id = (H1 i).ren ρ := fun id i hl => by simp [m2, H2, joinH, hl]
  have hlook2 : ∀ id, lookL ρ L id = none → m2 id = m id ∧ ∀ v T sz cs, H2 id = .cells v T sz cs → H id = .cells v T sz cs ∧ δ id = false := fun id hl => by
    refine ⟨by simp [m2, hl], fun v T sz cs hc => ?_⟩
    simp only [H2, joinH, hl] at hc
    split at hc
    · cases hc
    · rename_i hd; exact ⟨hc, by simpa using hd⟩
  have hlt : ∀ id v T sz cs b sh, H id = .cells v T sz cs → m id = some (b, sh) → b < w.heap.size := fun id v T sz cs b sh hc hm => hS.nlt b (hS.own _ _ _ _ _ b sh hc hm).1
  have hother : ∀ id v T sz cs b sh, lookL ρ L id = none → H id = .cells v T sz cs → m id = some (b, sh) → w1.heap[b]? = w.heap[b]? := fun id v T sz cs b sh hl hc hm => by
    refine hS1.keep.block b (hlt _ _ _ _ _ _ _ hc hm) ?_
    rintro ⟨i, hi, v2, T2, sz2, cs2, sh2, hc2, hm2⟩
    exact lookN id hl i hi (hS.inj _ _ b sh2 sh hm2 hm ⟨_, _, _, _, live i hi _ _ _ _ hc2⟩ ⟨_, _, _, _, hc⟩)
  have hren : ∀ {b : Blk} {v : Nat} {T sz : Nat} {cs : List AV}, b.ren ρ = .cells v T sz cs → ∃ cs1, b = .cells v T sz cs1 ∧ cs = renL ρ cs1 := fun {b v T sz cs} hb => by
    cases b with
    | gone v0 => cases hb
    | cells v0 T0 sz0 cs0 => simp only [Blk.ren, Blk.cells.injEq] at hb; obtain ⟨rfl, rfl, rfl, rfl⟩ := hb; exact ⟨cs0, rfl, rfl⟩
  have hCh : Ch m H N w m2 H2 N2 w1 := by
    refine ⟨fun a v hf => hf.keeps hKN hF3, fun id => ?_, fun id ver T sz cs hc => ?_⟩
    · cases hl : lookL ρ L id with
      | none =>
        simp only [H2, joinH, hl]
        split
        · simp [Blk.ver]
        · exact Nat.le_refl _
      | some i =>
        obtain ⟨h1, h2⟩ := lookM id i hl
        rw [(hlook1 id i hl).2, Blk.ren_ver, ← h2, hH i h1, Blk.ren_ver]
        exact hC1.ver i
    · cases hl : lookL ρ L id with
      | none =>
        obtain ⟨e1, e2⟩ := hlook2 id hl
        obtain ⟨e3, _⟩ := e2 _ _ _ _ hc
        exact .inr ⟨⟨T, cs, e3⟩, e1, fun b sh hm c T1 z hb => ⟨c, T1, z, by rw [hother id _ _ _ _ b sh hl e3 hm]; exact hb, rfl⟩⟩
      | some i =>
        obtain ⟨h1, h2⟩ := lookM id i hl
        rw [(hlook1 id i hl).2] at hc
        obtain ⟨cs1, hc1, rfl⟩ := hren hc
        rcases hC1.live i ver T sz cs1 hc1 with h3 | ⟨⟨T0, cs0, h3⟩, h4, h5⟩
        · exact .inl (by rw [← h2, hH i h1, Blk.ren_ver]; exact h3)
        · have hmc : mc i = m (ρ i) := by simp [mc, h1]
          refine .inr ⟨⟨T0, renL ρ cs0, by rw [← h2]; exact live i h1 _ _ _ _ h3⟩, by rw [(hlook1 id i hl).1, h4, hmc, h2], fun b sh hm c T1 z hb => h5 b sh (by rw [hmc, h2]; exact hm) c T1 z hb⟩
  have hN12 : (∀ b, N2 b → N1 b) ∨ ∀ a, q a = false := hq.imp (fun hq b hb => by
    rcases hb with ⟨hb, hnd⟩ | hb
    · exact hS1.n0 b ⟨hb, fun ⟨j, v, T, sz, cs, sh, h1, h2, h3⟩ => hnd ⟨j, v, T, sz, cs, sh, hq j h1, h2, h3⟩⟩
    · exact (hF4 b hb).1) id
  -- a value of the callee's as the caller names it
  have toK : ∀ {a : AV} {u : Value}, within (L.contains ·) q a = true → Rel m1 H1 N1 w1 a u → Rel m2 H2 N2 w1 (ren ρ a) u := fun {a u} ha hr => by
    have h1 := Rel.move (m2 := m2) (H2 := H2) (ρ := ρ) (L := (L.contains ·)) (q := q) (fun i hi => (hlook1 _ i (look i ((hcon i).1 hi))).1) (fun i hi => (hlook1 _ i (look i ((hcon i).1 hi))).2) hr ha
    rcases hN12 with h2 | h2
    · exact h1.sub h2
    · exact h1.noN h2 (within_ren ρ (L' := fun _ => true) (fun _ _ => rfl) a ha)
  have hS2 : St B m2 H2 N2 w1 := by
    refine ⟨hS.keep.trans hS1.keep (fun b hb hs => ?_), fun b hb => ?_, fun b hb => ?_, hS.n0lt, fun b hb => ?_, fun i v T sz cs b sh hi hc hm => ?_, fun i v T sz cs b sh hc hm => ?_, fun i j b s1 s2 hi hj li lj => ?_, fun i v T sz cs b sh hc hm => ?_, fun i v T sz cs hc hm => ?_⟩
    · rcases (hF2 b hs).2 with h1 | h1
      · exact h1
      · omega
    · rcases hb with hb | hb
      · exact Nat.lt_of_lt_of_le (hS.nlt b hb.1) hS1.keep.size
      · exact hS1.nlt b (hF4 b hb).1
    · refine .inl ⟨hS.n0 b hb, ?_⟩
      rintro ⟨j, v, T, sz, cs, sh, h1, h2, h3⟩
      have h4 := hS.fresh j v T sz cs b sh (hδ j h1) h2 h3
      have h5 := hS.n0lt b hb
      omega
    · rcases hb with hb | hb
      · exact hS.nfresh b hb.1
      · rcases (hF4 b hb).2 with h1 | h1
        · exact hS.nfresh b (hF2 b h1).1
        · have := hS.keep.size; exact .inr (by omega)
    · cases hl : lookL ρ L i with
      | none =>
        obtain ⟨e1, e2⟩ := hlook2 i hl
        exact hS.fresh i v T sz cs b sh hi (e2 _ _ _ _ hc).1 (e1 ▸ hm)
      | some k =>
        obtain ⟨h1, h2⟩ := lookM i k hl
        rw [(hlook1 i k hl).2] at hc
        rw [(hlook1 i k hl).1] at hm
        obtain ⟨cs1, hc1, rfl⟩ := hren hc
        rcases horig k v T sz cs1 b sh hc1 hm with ⟨_, ⟨v', T', sz', cs', h3⟩, sh0, h4⟩ | h3
        · exact hS.fresh i v' T' sz' cs' b sh0 hi (h2 ▸ h3) (h2 ▸ h4)
        · have := hS.keep.size; omega
    · cases hl : lookL ρ L i with
      | none =>
        obtain ⟨e1, e2⟩ := hlook2 i hl
        exact hS.orig i v T sz cs b sh (e2 _ _ _ _ hc).1 (e1 ▸ hm)
      | some k =>
        obtain ⟨h1, h2⟩ := lookM i k hl
        rw [(hlook1 i k hl).2] at hc
        rw [(hlook1 i k hl).1] at hm
        obtain ⟨cs1, hc1, rfl⟩ := hren hc
        rcases horig k v T sz cs1 b sh hc1 hm with ⟨_, ⟨v', T', sz', cs', h3⟩, sh0, h4⟩ | h3
        · exact hS.orig i v' T' sz' cs' b sh0 (h2 ▸ h3) (h2 ▸ h4)
        · have := hS.keep.size; exact .inr (by omega)
    · obtain ⟨v1, T1, z1, c1, li⟩ := li
      obtain ⟨v2, T2, z2, c2, lj⟩ := lj
      cases hl : lookL ρ L i with
      | none =>
        obtain ⟨e1, e2⟩ := hlook2 i hl
        have li' := (e2 _ _ _ _ li).1
        rw [e1] at hi
        cases hk : lookL ρ L j with
        | none =>
          obtain ⟨e3, e4⟩ := hlook2 j hk
          exact hS.inj i j b s1 s2 hi (e3 ▸ hj) ⟨_, _, _, _, li'⟩ ⟨_, _, _, _, (e4 _ _ _ _ lj).1⟩
        | some k =>
          obtain ⟨h1, h2⟩ := lookM j k hk
          rw [(hlook1 j k hk).2] at lj
          rw [(hlook1 j k hk).1] at hj
          obtain ⟨cs1, hc1, rfl⟩ := hren lj
          rcases horig k _ _ _ cs1 b s2 hc1 hj with ⟨_, h3, sh0, h4⟩ | h3
          · have := hS.inj i (ρ k) b s1 sh0 hi h4 ⟨_, _, _, _, li'⟩ h3
            rw [this, h2]
          · have := hlt _ _ _ _ _ _ _ li' hi; omega
      | some k0 =>
        obtain ⟨g1, g2⟩ := lookM i k0 hl
        rw [(hlook1 i k0 hl).2] at li
        rw [(hlook1 i k0 hl).1] at hi
        obtain ⟨cs0, hc0, rfl⟩ := hren li
        cases hk : lookL ρ L j with
        | none =>
          obtain ⟨e3, e4⟩ := hlook2 j hk
          have lj' := (e4 _ _ _ _ lj).1
          rw [e3] at hj
          rcases horig k0 _ _ _ cs0 b s1 hc0 hi with ⟨_, h3, sh0, h4⟩ | h3
          · have := hS.inj (ρ k0) j b sh0 s2 h4 hj h3 ⟨_, _, _, _, lj'⟩
            rw [← this, g2]
          · have := hlt _ _ _ _ _ _ _ lj' hj; omega
        | some k =>
          obtain ⟨h1, h2⟩ := lookM j k hk
          rw [(hlook1 j k hk).2] at lj
          rw [(hlook1 j k hk).1] at hj
          obtain ⟨cs1, hc1, rfl⟩ := hren lj
          have := hS1.inj k0 k b s1 s2 hi hj ⟨_, _, _, _, hc0⟩ ⟨_, _, _, _, hc1⟩
          rw [← g2, ← h2, this]
    · cases hl : lookL ρ L i with
      | none =>
        obtain ⟨e1, e2⟩ := hlook2 i hl
        obtain ⟨hc', hd⟩ := e2 _ _ _ _ hc
        rw [e1] at hm
        obtain ⟨a1, a2, c, a3, a4, a5⟩ := hS.own i v T sz cs b sh hc' hm
        refine ⟨.inl ⟨a1, ?_⟩, a2, c, by rw [hother i _ _ _ _ b sh hl hc' hm]; exact a3, a4, fun j y u hy hu => (a5 j y u hy hu).ch hCh⟩
        rintro ⟨j, v2, T2, z2, c2, sh2, hd2, hj2, hm2⟩
        rw [← hS.inj _ _ b sh sh2 hm hm2 ⟨_, _, _, _, hc'⟩ ⟨_, _, _, _, hj2⟩, hd] at hd2
        cases hd2
      | some k =>
        obtain ⟨h1, h2⟩ := lookM i k hl
        rw [(hlook1 i k hl).2] at hc
        rw [(hlook1 i k hl).1] at hm
        obtain ⟨cs1, hc1, rfl⟩ := hren hc
        obtain ⟨a1, a2, c, a3, a4, a5⟩ := hS1.own k v T sz cs1 b sh hc1 hm
        refine ⟨.inr ⟨k, h1, _, _, _, _, sh, hc1, hm⟩, ?_, c, a3, by rw [renL_length]; exact a4, fun j y u hy hu => ?_⟩
        · rcases a2 with a2 | a2
          · exact (hF2 b a2).2
          · have h9 := hS.keep.size
            have a2' : w.heap.size ≤ b := a2
            exact .inr (by omega)
        · rw [renL_get] at hy
          cases hcy : cs1[j]? with
          | none => rw [hcy] at hy; cases hy
          | some z =>
            rw [hcy] at hy; injection hy with hy; subst hy
            exact toK (withinL_get (hcells k h1 _ _ _ _ hc1) hcy) (a5 j z u hcy hu)
    · cases hl : lookL ρ L i with
      | none =>
        obtain ⟨e1, e2⟩ := hlook2 i hl
        exact hS.virt i v T sz cs (e2 _ _ _ _ hc).1 (e1 ▸ hm)
      | some k =>
        rw [(hlook1 i k hl).2] at hc
        rw [(hlook1 i k hl).1] at hm
        obtain ⟨cs1, hc1, rfl⟩ := hren hc
        rw [hS1.virt k v T sz cs1 hc1 hm]; rfl
  have hresult : ∀ {a a' : AV}, Res (L.contains ·) q H1 a a' → ∀ {u : Value}, Rel m1 H1 N1 w1 a u → Rel m2 H2 N2 w1 (ren ρ a') u := by
    intro a a' hr
    induction hr with
    | keep a ha => exact fun hu => toK ha hu
    | frz a a' hf =>
      intro u hu
      rw [hf.ren_id]
      refine .fz (hf.rel hS1 (fun a v hw hfz hfr => ?_) (fun j v T sz cs b sh hj hc hm hn => ?_) hu)
      · rcases hN12 with h2 | h2
        · exact hfr.sub h2
        · exact hfr.noN h2 hw
      · have hjL : j ∉ L := by simpa using hj
        rcases horig j v T sz cs b sh hc hm with ⟨h1, _⟩ | h1
        · exact hjL h1
        · rcases hn with hn | ⟨i, hi, v2, T2, sz2, cs2, sh2, hc2, hm2⟩
          · have := hS.nlt b hn.1; omega
          · exact hjL (hS1.inj i j b sh2 sh hm2 hm ⟨_, _, _, _, hc2⟩ ⟨_, _, _, _, hc⟩ ▸ hi)
    | tup cs ds hl hr ih =>
      intro u hu
      obtain ⟨us, rfl, hn, hc⟩ := rel_tup hu
      simp only [ren]
      refine .tup _ us (by rw [renL_length]; omega) fun i y u h3 h4 => ?_
      rw [renL_get] at h3
      cases hd : ds[i]? with
      | none => rw [hd] at h3; cases h3
      | some z =>
        rw [hd] at h3; injection h3 with h3; subst h3
        have hi := (List.getElem?_eq_some_iff.1 hd).1
        have hcs : cs[i]? = some (cs[i]'(by omega)) := List.getElem?_eq_getElem _
        exact ih i _ z hcs hd (hc i _ u hcs h4)
    | agg cs ds hl hr ih =>
      intro u hu
      obtain ⟨us, rfl, hn, hc⟩ := rel_agg hu
      simp only [ren]
      refine .agg _ us (by rw [renL_length]; omega) fun i y u h3 h4 => ?_
      rw [renL_get] at h3
      cases hd : ds[i]? with
      | none => rw [hd] at h3; cases h3
      | some z =>
        rw [hd] at h3; injection h3 with h3; subst h3
        have hi := (List.getElem?_eq_some_iff.1 hd).1
        have hcs : cs[i]? = some (cs[i]'(by omega)) := List.getElem?_eq_getElem _
        exact ih i _ z hcs hd (hc i _ u hcs h4)
  exact ⟨v, m2, H2, N2, ren ρ r, rfl, hKr, hS2, hCh, hresult hres hx⟩
end Go.Abs
