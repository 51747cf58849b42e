/- Texts of ours, joined: AbsR AbsQ AbsS AbsT. -/
import Derived.Test.YtmpbbjdkpdakeaaAbs2
/- The abstract machine, part R: rules by which simp runs code. Each is an equation that holds by definition. -/
set_option linter.unusedVariables false
set_option linter.unusedSimpArgs false
namespace Go.Abs

theorem nrfl {α : Sort _} {a b : α} (h : a = b) : a = b := h
/-- A mark: simp looks no further. -/
def Tick : Prop := True
@[go_sem] theorem tick_eq : Tick = True := propext ⟨fun _ => trivial, fun h => h⟩
/-- Worked out before it goes on. -/
def sv {α : Type} (x : α) (K : α → Prop) : Prop := K x
@[congr] theorem sv_congr {α : Type} {x x' : α} {K : α → Prop} (h : x = x') {tk : Prop} (hk : Tick = tk) : sv x K = sv x' K := by rw [h]
@[go_sem] theorem sv_eq {α : Type} (x : α) (K : α → Prop) : sv x K = K x := nrfl rfl
def withO {α : Type} (x : Option α) (K : α → Prop) : Prop := match x with | some y => K y | none => False
@[congr] theorem withO_congr {α : Type} {x x' : Option α} {K : α → Prop} (h : x = x') {tk : Prop} (hk : Tick = tk) : withO x K = withO x' K := by rw [h]
@[go_sem] theorem withO_some {α : Type} {y : α} {K : α → Prop} : withO (some y) K = K y := nrfl rfl
def sv2 {α β : Type} (x : α) (y : β) (K : α → β → Prop) : Prop := K x y
@[congr] theorem sv2_congr {α β : Type} {x x' : α} {y y' : β} {K : α → β → Prop} (h : x = x') (h' : y = y') {tk : Prop} (hk : Tick = tk) : sv2 x y K = sv2 x' y' K := by rw [h, h']
@[go_sem] theorem sv2_eq {α β : Type} (x : α) (y : β) (K : α → β → Prop) : sv2 x y K = K x y := nrfl rfl
/-- A list of operations. -/
def aopl (P : Program) (l0 : List Oper) : List Oper → Env → Heap → (Env → Heap → Prop) → Prop
  | [], env, H, K => K env H
  | o :: rest, env, H, K =>
    match o.guard with
    | none => aop P o.op (o.dst.getD 0) (ev env) H fun v H' => aopl P l0 rest (put env o.dst v) H' K
    | some (j, want) =>
      match gslot l0 j with
      | some t => agd (env t) want (aop P o.op (o.dst.getD 0) (ev env) H fun v H' => aopl P l0 rest (put env o.dst v) H' K) (aopl P l0 rest (put env o.dst (.tup [])) H K)
      | none => False

theorem aopl_eq (P : Program) (all : Array Oper) : ∀ (l : List Oper) (env : Env) (H : Heap) (K : Env → Heap → Prop), aops P all l env H K = aopl P all.toList l env H K
  | [], env, H, K => rfl
  | o :: rest, env, H, K => by
    unfold aops aopl
    cases hg : o.guard with
    | none => simp only [aopl_eq P all rest]
    | some p => simp only [aopl_eq P all rest, gslot, agd, Array.getElem?_toList]; rfl

/-! Nothing is worked out inside of these but by the rules below. -/
section
variable {P : Program} {n : Nat} {pl : Plans}
@[congr] theorem aopl_congr {l0 l : List Oper} {env : Env} {H : Heap} {K : Env → Heap → Prop} {tk : Prop} (hk : Tick = tk) : aopl P l0 l env H K = aopl P l0 l env H K := rfl
@[congr] theorem aop_congr {op : Op} {d : Nat} {e : Operand → AV} {H : Heap} {K : AV → Heap → Prop} {tk : Prop} (hk : Tick = tk) : aop P op d e H K = aop P op d e H K := rfl
@[congr] theorem cwp_congr {c : Code} {Q : Exit → Env → Heap → Prop} {env : Env} {H : Heap} {tk : Prop} (hk : Tick = tk) : cwp P n pl c Q env H = cwp P n pl c Q env H := rfl
def agb (v : AV) (X Y : Prop) : Prop := match v with | .bool t => (t = true → X) ∧ (t = false → Y) | _ => False
@[congr] theorem agb_congr {v : AV} {X Y : Prop} {tk : Prop} (hk : Tick = tk) : agb v X Y = agb v X Y := rfl
@[congr] theorem agd_congr {v : AV} {b : Bool} {X Y : Prop} {tk : Prop} (hk : Tick = tk) : agd v b X Y = agd v b X Y := rfl
@[congr] theorem thenQ_congr {K : Env → Heap → Prop} {Q : Exit → Env → Heap → Prop} {e : Exit} {env : Env} {H : Heap} {tk : Prop} (hk : Tick = tk) : thenQ K Q e env H = thenQ K Q e env H := rfl
@[congr] theorem blockQ_congr {id : Nat} {Q : Exit → Env → Heap → Prop} {e : Exit} {env : Env} {H : Heap} {tk : Prop} (hk : Tick = tk) : blockQ id Q e env H = blockQ id Q e env H := rfl
@[congr] theorem retQ_congr {rs : List ResultVar} {K : AV → Heap → Prop} {e : Exit} {env : Env} {H : Heap} {tk : Prop} (hk : Tick = tk) : retQ P rs K e env H = retQ P rs K e env H := rfl
@[congr] theorem aresults_congr {env : Env} {H : Heap} {rs : List ResultVar} {K : List AV → Prop} {tk : Prop} (hk : Tick = tk) : aresults P env H rs K = aresults P env H rs K := rfl
@[congr] theorem ALoop_congr {x : Code} {Q : Exit → Env → Heap → Prop} {env env' : Env} {H H' : Heap} (h : env = env') (h' : H = H') {tk : Prop} (hk : Tick = tk) : ALoop P n x Q env H = ALoop P n x Q env' H' := by rw [h, h']
@[congr] theorem prun_congr {l : List Oper} {p : Plan} {K : Env → Heap → Prop} {env : Env} {H : Heap} {tk : Prop} (hk : Tick = tk) : prun P l p env H K = prun P l p env H K := rfl
@[congr] theorem chks_congr {l : List Oper} {c : List Nat} {env : Env} {H : Heap} {tk : Prop} (hk : Tick = tk) : chks P l c env H = chks P l c env H := rfl
@[congr] theorem ACall_congr {g : FuncId} {args args' : List AV} {H H' : Heap} {K : AV → Heap → Prop} (h : args = args') (h' : H = H') {tk : Prop} (hk : Tick = tk) : ACall P g args H K = ACall P g args' H' K := by rw [h, h']

/-! ### Code -/
@[go_sem ↓] theorem r_skip {Q : Exit → Env → Heap → Prop} {env : Env} {H : Heap} : cwp P n pl .skip Q env H = Q .normal env H := nrfl rfl
@[go_sem ↓] theorem r_region {id : Nat} {l : List Oper} {Q : Exit → Env → Heap → Prop} {env : Env} {H : Heap} : cwp P n pl (.region id (List.toArray l) false) Q env H = aopl P l l env H (Q .normal) := aopl_eq P _ l env H _
@[go_sem ↓] theorem r_draw {id : Nat} {l : List Oper} {Q : Exit → Env → Heap → Prop} {env : Env} {H : Heap} : cwp P n pl (.region id (List.toArray l) true) Q env H = sv (planOf pl id) fun p => prun P l p env H (Q .normal) := nrfl rfl
@[go_sem ↓] theorem pl_same {id : Nat} {p : Plan} {r : Plans} : planOf ((id, p) :: r) id = p := by simp [planOf]
@[go_sem ↓ low] theorem pl_cons {id i : Nat} {p : Plan} {r : Plans} : planOf ((i, p) :: r) id = if id = i then p else planOf r id := nrfl rfl
@[go_sem ↓] theorem r_seq {x y : Code} {Q : Exit → Env → Heap → Prop} {env : Env} {H : Heap} : cwp P n pl (.seq x y) Q env H = cwp P n pl x (thenQ (cwp P n pl y Q) Q) env H := nrfl rfl
@[go_sem ↓] theorem r_cond {c : Operand} {x y : Code} {Q : Exit → Env → Heap → Prop} {env : Env} {H : Heap} : cwp P n pl (.cond c x y) Q env H = sv (ev env c) fun v => agb v (cwp P n pl x Q env H) (cwp P n pl y Q env H) := nrfl rfl
@[go_sem ↓] theorem r_block {id : Nat} {x : Code} {Q : Exit → Env → Heap → Prop} {env : Env} {H : Heap} : cwp P n pl (.block id x) Q env H = cwp P n pl x (blockQ id Q) env H := nrfl rfl
@[go_sem ↓] theorem r_loop {x : Code} {Q : Exit → Env → Heap → Prop} {env : Env} {H : Heap} : cwp P n pl (.loop x) Q env H = ALoop P n x Q env H := nrfl rfl
@[go_sem ↓] theorem r_exit {id : Nat} {Q : Exit → Env → Heap → Prop} {env : Env} {H : Heap} : cwp P n pl (.exit id) Q env H = Q (.exit id) env H := nrfl rfl
@[go_sem ↓] theorem r_ret {Q : Exit → Env → Heap → Prop} {env : Env} {H : Heap} : cwp P n pl .ret Q env H = Q .ret env H := nrfl rfl
@[go_sem ↓] theorem q_then {K : Env → Heap → Prop} {Q : Exit → Env → Heap → Prop} {env : Env} {H : Heap} : thenQ K Q .normal env H = K env H := nrfl rfl
@[go_sem ↓] theorem q_thenE {K : Env → Heap → Prop} {Q : Exit → Env → Heap → Prop} {i : Nat} {env : Env} {H : Heap} : thenQ K Q (.exit i) env H = Q (.exit i) env H := nrfl rfl
@[go_sem ↓] theorem q_thenR {K : Env → Heap → Prop} {Q : Exit → Env → Heap → Prop} {env : Env} {H : Heap} : thenQ K Q .ret env H = Q .ret env H := nrfl rfl
@[go_sem ↓] theorem q_block {id : Nat} {Q : Exit → Env → Heap → Prop} {env : Env} {H : Heap} : blockQ id Q .normal env H = Q .normal env H := nrfl rfl
@[go_sem ↓] theorem q_blockR {id : Nat} {Q : Exit → Env → Heap → Prop} {env : Env} {H : Heap} : blockQ id Q .ret env H = Q .ret env H := nrfl rfl
@[go_sem ↓] theorem q_blockE {id : Nat} {Q : Exit → Env → Heap → Prop} {env : Env} {H : Heap} : blockQ id Q (.exit id) env H = Q .normal env H := by simp [blockQ]
@[go_sem ↓ low] theorem q_blockF {id i : Nat} {Q : Exit → Env → Heap → Prop} {env : Env} {H : Heap} : blockQ id Q (.exit i) env H = if i = id then Q .normal env H else Q (.exit i) env H := nrfl rfl
@[go_sem ↓] theorem q_ret {rs : List ResultVar} {K : AV → Heap → Prop} {env : Env} {H : Heap} : retQ P rs K .ret env H = aret P rs env H fun v => K v H := nrfl rfl
@[go_sem ↓] theorem q_retN {rs : List ResultVar} {K : AV → Heap → Prop} {env : Env} {H : Heap} : retQ P rs K .normal env H = aret P rs env H fun v => K v H := nrfl rfl
@[go_sem ↓] theorem r_aret {rs : List ResultVar} {env : Env} {H : Heap} {K : AV → Prop} : aret P rs env H K = aresults P env H rs fun vs => match vs with | [v] => K v | vs => K (.tup vs) := nrfl rfl
@[go_sem ↓] theorem r_res0 {env : Env} {H : Heap} {K : List AV → Prop} : aresults P env H [] K = K [] := nrfl rfl
@[go_sem ↓] theorem r_resT {env : Env} {H : Heap} {t : Tmp} {rs : List ResultVar} {K : List AV → Prop} : aresults P env H (.tmp t :: rs) K = sv (env t) fun v => aresults P env H rs fun vs => K (v :: vs) := nrfl rfl
@[go_sem ↓] theorem r_resC {env : Env} {H : Heap} {x : Tmp} {t : TypeId} {rs : List ResultVar} {K : List AV → Prop} : aresults P env H (.cell x t :: rs) K = sv (env x) fun a => aload P t a H fun v => sv v fun v => aresults P env H rs fun vs => K (v :: vs) := nrfl rfl

/-! ### Tests -/
@[go_sem ↓] theorem g_sk {w : Bool} {X Y : Prop} : agd (.tup []) w X Y = Y := nrfl rfl
@[go_sem ↓] theorem gb_t {X Y : Prop} : agb (.bool true) X Y = X := by simp [agb]
@[go_sem ↓] theorem gb_f {X Y : Prop} : agb (.bool false) X Y = Y := by simp [agb]
@[go_sem ↓ low] theorem gb_b {b : Bool} {X Y : Prop} : agb (.bool b) X Y = ((b = true → X) ∧ (b = false → Y)) := nrfl rfl
@[go_sem ↓] theorem g_tt {X Y : Prop} : agd (.bool true) true X Y = X := by simp [agd]
@[go_sem ↓] theorem g_ft {X Y : Prop} : agd (.bool false) true X Y = Y := by simp [agd]
@[go_sem ↓] theorem g_tf {X Y : Prop} : agd (.bool true) false X Y = Y := by simp [agd]
@[go_sem ↓] theorem g_ff {X Y : Prop} : agd (.bool false) false X Y = X := by simp [agd]
@[go_sem ↓ low] theorem g_bt {b : Bool} {X Y : Prop} : agd (.bool b) true X Y = ((b = true → X) ∧ (b = false → Y)) := nrfl rfl
@[go_sem ↓ low] theorem g_bf {b : Bool} {X Y : Prop} : agd (.bool b) false X Y = ((b = false → X) ∧ (b = true → Y)) := nrfl rfl

/-! ### Operations in a row -/
@[go_sem ↓] theorem o_nil {l0 : List Oper} {env : Env} {H : Heap} {K : Env → Heap → Prop} : aopl P l0 [] env H K = K env H := nrfl rfl
@[go_sem ↓] theorem o_consS {l0 : List Oper} {d : Tmp} {op : Op} {ty : TypeId} {pos : String} {af : Array Edge} {rest : List Oper} {env : Env} {H : Heap} {K : Env → Heap → Prop} :
    aopl P l0 (⟨some d, op, ty, pos, af, none⟩ :: rest) env H K = aop P op d (ev env) H fun v H' => aopl P l0 rest (upd env d v) H' K := nrfl rfl
@[go_sem ↓] theorem o_consN {l0 : List Oper} {op : Op} {ty : TypeId} {pos : String} {af : Array Edge} {rest : List Oper} {env : Env} {H : Heap} {K : Env → Heap → Prop} :
    aopl P l0 (⟨none, op, ty, pos, af, none⟩ :: rest) env H K = aop P op 0 (ev env) H fun v H' => aopl P l0 rest env H' K := nrfl rfl
def agd2 (v : AV) (w : Bool) (t : Nat) (env : Env) (X Y : Env → Prop) : Prop := match v with
  | .bool b => (b = w → X (upd env t (.bool w))) ∧ (b = !w → Y (upd env t (.bool (!w))))
  | .tup [] => Y env
  | _ => False
@[congr] theorem agd2_congr {v : AV} {w : Bool} {t : Nat} {env : Env} {X Y : Env → Prop} {tk : Prop} (hk : Tick = tk) : agd2 v w t env X Y = agd2 v w t env X Y := rfl
theorem upd_self {α : Type} (f : Nat → α) (t : Nat) : upd f t (f t) = f := by
  funext j; simp only [upd]; split
  · rename_i h; rw [h]
  · rfl
@[go_sem ↓] theorem o_guardS {l0 : List Oper} {d : Tmp} {op : Op} {ty : TypeId} {pos : String} {af : Array Edge} {j : Nat} {w : Bool} {rest : List Oper} {env : Env} {H : Heap} {K : Env → Heap → Prop} :
    aopl P l0 (⟨some d, op, ty, pos, af, some (j, w)⟩ :: rest) env H K = sv (gslot l0 j) fun s => match s with
      | some t => sv (env t) fun v => agd2 v w t env (fun env => aop P op d (ev env) H fun v H' => aopl P l0 rest (upd env d v) H' K) (fun env => aopl P l0 rest (upd env d (.tup [])) H K)
      | none => False := by
  unfold sv
  simp only [aopl]
  cases gslot l0 j with
  | none => rfl
  | some t =>
    simp only []
    cases hv : env t <;> simp only [agd, agd2]
    case tup vs => cases vs <;> rfl
    rename_i b
    have e : ∀ w' : Bool, b = w' → upd env t (.bool w') = env := fun w' h => by rw [← h, ← hv, upd_self]
    apply propext
    constructor
    · rintro ⟨h1, h2⟩
      exact ⟨fun h => by rw [e w h]; exact h1 h, fun h => by rw [e (!w) h]; exact h2 h⟩
    · rintro ⟨h1, h2⟩
      exact ⟨fun h => by have := h1 h; rwa [e w h] at this, fun h => by have := h2 h; rwa [e (!w) h] at this⟩
@[go_sem ↓] theorem o_guardN {l0 : List Oper} {op : Op} {ty : TypeId} {pos : String} {af : Array Edge} {j : Nat} {w : Bool} {rest : List Oper} {env : Env} {H : Heap} {K : Env → Heap → Prop} :
    aopl P l0 (⟨none, op, ty, pos, af, some (j, w)⟩ :: rest) env H K = sv (gslot l0 j) fun s => match s with
      | some t => sv (env t) fun v => agd2 v w t env (fun env => aop P op 0 (ev env) H fun v H' => aopl P l0 rest env H' K) (fun env => aopl P l0 rest env H K)
      | none => False := by
  unfold sv
  simp only [aopl]
  cases gslot l0 j with
  | none => rfl
  | some t =>
    simp only []
    cases hv : env t <;> simp only [agd, agd2]
    case tup vs => cases vs <;> rfl
    rename_i b
    have e : ∀ w' : Bool, b = w' → upd env t (.bool w') = env := fun w' h => by rw [← h, ← hv, upd_self]
    apply propext
    constructor
    · rintro ⟨h1, h2⟩
      exact ⟨fun h => by rw [e w h]; exact h1 h, fun h => by rw [e (!w) h]; exact h2 h⟩
    · rintro ⟨h1, h2⟩
      exact ⟨fun h => by have := h1 h; rwa [e w h] at this, fun h => by have := h2 h; rwa [e (!w) h] at this⟩
/-! ### A plan -/
def lget (l : List Oper) (i : Nat) : Option Oper := l[i]?
@[go_sem] theorem lg0 {o : Oper} {l : List Oper} : lget (o :: l) 0 = some o := nrfl rfl
@[go_sem] theorem lgS {o : Oper} {l : List Oper} {j : Nat} : lget (o :: l) (j + 1) = lget l j := nrfl rfl
def stepW (P : Program) (l : List Oper) (o : Oper) (env : Env) (H : Heap) (X : Env → Heap → Prop) : Prop := match o.guard with
  | none => aop P o.op (o.dst.getD 0) (ev env) H fun v H' => X (put env o.dst v) H'
  | some (j, w) => sv (gslot l j) fun s => match s with
    | some t => sv (env t) fun v => agd2 v w t env (fun env => aop P o.op (o.dst.getD 0) (ev env) H fun v H' => X (put env o.dst v) H') (fun env => X (put env o.dst (.tup [])) H)
    | none => False
@[congr] theorem stepW_congr {l : List Oper} {o : Oper} {env : Env} {H : Heap} {X : Env → Heap → Prop} {tk : Prop} (hk : Tick = tk) : stepW P l o env H X = stepW P l o env H X := rfl
@[go_sem ↓] theorem stepW_noneS {l : List Oper} {d : Tmp} {op : Op} {ty : TypeId} {pos : String} {af : Array Edge} {env : Env} {H : Heap} {X : Env → Heap → Prop} : stepW P l ⟨some d, op, ty, pos, af, none⟩ env H X = aop P op d (ev env) H fun v H' => X (upd env d v) H' := nrfl rfl
@[go_sem ↓] theorem stepW_noneN {l : List Oper} {op : Op} {ty : TypeId} {pos : String} {af : Array Edge} {env : Env} {H : Heap} {X : Env → Heap → Prop} : stepW P l ⟨none, op, ty, pos, af, none⟩ env H X = aop P op 0 (ev env) H fun v H' => X env H' := nrfl rfl
@[go_sem ↓] theorem stepW_someS {l : List Oper} {d : Tmp} {op : Op} {ty : TypeId} {pos : String} {af : Array Edge} {j : Nat} {w : Bool} {env : Env} {H : Heap} {X : Env → Heap → Prop} : stepW P l ⟨some d, op, ty, pos, af, some (j, w)⟩ env H X = sv (gslot l j) fun s => match s with
    | some t => sv (env t) fun v => agd2 v w t env (fun env => aop P op d (ev env) H fun v H' => X (upd env d v) H') (fun env => X (upd env d (.tup [])) H)
    | none => False := nrfl rfl
@[go_sem ↓] theorem stepW_someN {l : List Oper} {op : Op} {ty : TypeId} {pos : String} {af : Array Edge} {j : Nat} {w : Bool} {env : Env} {H : Heap} {X : Env → Heap → Prop} : stepW P l ⟨none, op, ty, pos, af, some (j, w)⟩ env H X = sv (gslot l j) fun s => match s with
    | some t => sv (env t) fun v => agd2 v w t env (fun env => aop P op 0 (ev env) H fun v H' => X env H') (fun env => X env H)
    | none => False := nrfl rfl
theorem aopV_step {l : List Oper} {i : Nat} {env : Env} {H : Heap} {X : Env → Heap → Prop} : (aopV P l i env H fun v H' => X (putAt l i env v) H') = withO (lget l i) fun o => stepW P l o env H X := by
  unfold aopV withO lget putAt slotOf
  cases ho : l[i]? with
  | none => rfl
  | some o =>
    simp only [Option.bind_some]
    unfold stepW
    cases hg : o.guard with
    | none => rfl
    | some p =>
      obtain ⟨j, w⟩ := p
      simp only [sv]
      cases gslot l j with
      | none => rfl
      | some t =>
        simp only []
        cases hv : env t <;> simp only [agd, agd2]
        case tup vs => cases vs <;> rfl
        rename_i b
        have e : ∀ w' : Bool, b = w' → upd env t (.bool w') = env := fun w' h => by rw [← h, ← hv, upd_self]
        apply propext
        constructor
        · rintro ⟨h1, h2⟩
          exact ⟨fun h => by rw [e w h]; exact h1 h, fun h => by rw [e (!w) h]; exact h2 h⟩
        · rintro ⟨h1, h2⟩
          exact ⟨fun h => by have := h1 h; rwa [e w h] at this, fun h => by have := h2 h; rwa [e (!w) h] at this⟩
def quietW (op : Op) (e : Operand → AV) : Prop := quiet op e
@[congr] theorem quietW_congr {op : Op} {e : Operand → AV} {tk : Prop} (hk : Tick = tk) : quietW op e = quietW op e := rfl
@[go_sem ↓] theorem qt_bin {o : BinOp} {t t' : TypeId} {x y : Operand} {e : Operand → AV} : quietW (.binOp o t x y t') e = sv (e y) fun v => isNilC v = false := nrfl rfl
@[go_sem ↓ low] theorem qt_other {op : Op} {e : Operand → AV} : quietW op e = (match op with | .binOp _ _ _ y _ => isNilC (e y) = false | _ => True) := nrfl rfl
@[go_sem] theorem in_int {k : IntKind} {n : Int} : isNilC (.int k n) = false := nrfl rfl
@[go_sem] theorem in_bool {b : Bool} : isNilC (.bool b) = false := nrfl rfl
@[go_sem] theorem in_str {b : ByteArray} : isNilC (.str b) = false := nrfl rfl
@[go_sem] theorem in_tup {vs : List AV} : isNilC (.tup vs) = false := nrfl rfl
@[go_sem] theorem in_dead : isNilC .dead = false := nrfl rfl
@[go_sem] theorem in_agg {cs : List AV} : isNilC (.agg cs) = false := nrfl rfl
@[go_sem ↓] theorem pr_done {l : List Oper} {env : Env} {H : Heap} {K : Env → Heap → Prop} : prun P l .done env H K = K env H := nrfl rfl
@[go_sem ↓] theorem pr_no {l : List Oper} {env : Env} {H : Heap} {K : Env → Heap → Prop} : prun P l .no env H K = True := nrfl rfl
@[go_sem ↓] theorem pr_take {l : List Oper} {i : Nat} {r : Plan} {env : Env} {H : Heap} {K : Env → Heap → Prop} : prun P l (.take i r) env H K = withO (lget l i) fun o => quietW o.op (ev env) ∧ stepW P l o env H fun env' H' => prun P l r env' H' K := by
  have h : prun P l (.take i r) env H K = (quietAt l i env ∧ aopV P l i env H fun v H' => prun P l r (putAt l i env v) H' K) := nrfl rfl
  rw [h, aopV_step (X := fun env' H' => prun P l r env' H' K)]
  unfold withO lget quietAt quietW
  cases l[i]? <;> simp
@[go_sem ↓] theorem pr_eff {l : List Oper} {i : Nat} {s c : List Nat} {r o : Plan} {env : Env} {H : Heap} {K : Env → Heap → Prop} : prun P l (.eff i s c r o) env H K = ((withO (lget l i) fun o => stepW P l o env H fun env' H' => chks P l c env' H' ∧ prun P l r env' H' K) ∧ prun P l o env H K) := by
  rw [← aopV_step (X := fun env' H' => chks P l c env' H' ∧ prun P l r env' H' K)]
  rfl
/-- Again. -/
def chkW (P : Program) (l : List Oper) (o : Oper) (env : Env) (H : Heap) : Prop := match o.guard with
  | none => aop P o.op (o.dst.getD 0) (ev env) H fun v _ => match o.dst with | some d => v = env d | none => True
  | some (j, w) => sv (gslot l j) fun s => match s with
    | some t => sv (env t) fun v => agd v w (aop P o.op (o.dst.getD 0) (ev env) H fun v _ => match o.dst with | some d => v = env d | none => True) (match o.dst with | some d => (AV.tup []) = env d | none => True)
    | none => False
@[congr] theorem chkW_congr {l : List Oper} {o : Oper} {env : Env} {H : Heap} {tk : Prop} (hk : Tick = tk) : chkW P l o env H = chkW P l o env H := rfl
@[go_sem ↓] theorem chkW_noneS {l : List Oper} {d : Tmp} {op : Op} {ty : TypeId} {pos : String} {af : Array Edge} {env : Env} {H : Heap} : chkW P l ⟨some d, op, ty, pos, af, none⟩ env H = aop P op d (ev env) H fun v _ => match (some d : Option Tmp) with | some d => sv (env d) fun u => v = u | none => True := nrfl rfl
@[go_sem ↓] theorem chkW_noneN {l : List Oper} {op : Op} {ty : TypeId} {pos : String} {af : Array Edge} {env : Env} {H : Heap} : chkW P l ⟨none, op, ty, pos, af, none⟩ env H = aop P op 0 (ev env) H fun v _ => match (none : Option Tmp) with | some d => sv (env d) fun u => v = u | none => True := nrfl rfl
@[go_sem ↓] theorem chkW_someS {l : List Oper} {d : Tmp} {op : Op} {ty : TypeId} {pos : String} {af : Array Edge} {j : Nat} {w : Bool} {env : Env} {H : Heap} : chkW P l ⟨some d, op, ty, pos, af, some (j, w)⟩ env H = sv (gslot l j) fun s => match s with
    | some t => sv (env t) fun v => agd v w (aop P op d (ev env) H fun v _ => match (some d : Option Tmp) with | some d => sv (env d) fun u => v = u | none => True) (match (some d : Option Tmp) with | some d => sv (env d) fun u => (AV.tup []) = u | none => True)
    | none => False := nrfl rfl
@[go_sem ↓] theorem chkW_someN {l : List Oper} {op : Op} {ty : TypeId} {pos : String} {af : Array Edge} {j : Nat} {w : Bool} {env : Env} {H : Heap} : chkW P l ⟨none, op, ty, pos, af, some (j, w)⟩ env H = sv (gslot l j) fun s => match s with
    | some t => sv (env t) fun v => agd v w (aop P op 0 (ev env) H fun v _ => match (none : Option Tmp) with | some d => sv (env d) fun u => v = u | none => True) (match (none : Option Tmp) with | some d => sv (env d) fun u => (AV.tup []) = u | none => True)
    | none => False := nrfl rfl
@[go_sem ↓] theorem ck_nil {l : List Oper} {env : Env} {H : Heap} : chks P l [] env H = True := nrfl rfl
@[go_sem ↓] theorem ck_cons {l : List Oper} {i : Nat} {c : List Nat} {env : Env} {H : Heap} : chks P l (i :: c) env H = ((withO (lget l i) fun o => quietW o.op (ev env) ∧ chkW P l o env H) ∧ chks P l c env H) := by
  have h : chks P l (i :: c) env H = (quietAt l i env ∧ (aopV P l i env H fun v _ => match slotOf l i with | some d => v = env d | none => True) ∧ chks P l c env H) := nrfl rfl
  rw [h]
  unfold withO lget quietAt quietW aopV slotOf chkW
  cases l[i]? with
  | none => simp
  | some o =>
    simp only [Option.bind_some, sv, and_assoc]
    cases o.guard with
    | none => rfl
    | some p => obtain ⟨j, w⟩ := p; simp only []; cases gslot l j <;> rfl
@[go_sem ↓] theorem g2_sk {w : Bool} {t : Nat} {env : Env} {X Y : Env → Prop} : agd2 (.tup []) w t env X Y = Y env := nrfl rfl
@[go_sem ↓] theorem g2_tt {t : Nat} {env : Env} {X Y : Env → Prop} : agd2 (.bool true) true t env X Y = X (upd env t (.bool true)) := by simp [agd2]
@[go_sem ↓] theorem g2_ft {t : Nat} {env : Env} {X Y : Env → Prop} : agd2 (.bool false) true t env X Y = Y (upd env t (.bool false)) := by simp [agd2]
@[go_sem ↓] theorem g2_tf {t : Nat} {env : Env} {X Y : Env → Prop} : agd2 (.bool true) false t env X Y = Y (upd env t (.bool true)) := by simp [agd2]
@[go_sem ↓] theorem g2_ff {t : Nat} {env : Env} {X Y : Env → Prop} : agd2 (.bool false) false t env X Y = X (upd env t (.bool false)) := by simp [agd2]
@[go_sem ↓ low] theorem g2_bt {b : Bool} {t : Nat} {env : Env} {X Y : Env → Prop} : agd2 (.bool b) true t env X Y = ((b = true → X (upd env t (.bool true))) ∧ (b = false → Y (upd env t (.bool false)))) := nrfl rfl
@[go_sem ↓ low] theorem g2_bf {b : Bool} {t : Nat} {env : Env} {X Y : Env → Prop} : agd2 (.bool b) false t env X Y = ((b = false → X (upd env t (.bool false))) ∧ (b = true → Y (upd env t (.bool true)))) := nrfl rfl
@[go_sem ↓] theorem k_t {x y : AV} {K : AV → Prop} : apick (.bool true) x y K = K x := nrfl rfl
@[go_sem ↓] theorem k_f {x y : AV} {K : AV → Prop} : apick (.bool false) x y K = K y := nrfl rfl
@[go_sem ↓] theorem k_b {b p q : Bool} {K : AV → Prop} : apick (.bool b) (.bool p) (.bool q) K = K (.bool (if b then p else q)) := by cases b <;> rfl
@[go_sem ↓] theorem k_i {b : Bool} {k : IntKind} {p q : Int} {K : AV → Prop} : apick (.bool b) (.int k p) (.int k q) K = K (.int k (if b then p else q)) := by cases b <;> rfl
@[congr] theorem apick_congr {c x y : AV} {K : AV → Prop} {tk : Prop} (hk : Tick = tk) : apick c x y K = apick c x y K := rfl
@[go_sem] theorem n0 {a : AV} {l : List AV} : env0 (a :: l) 0 = a := nrfl rfl
@[go_sem] theorem nS {a : AV} {l : List AV} {i : Nat} : env0 (a :: l) (i + 1) = env0 l i := nrfl rfl
@[go_sem] theorem nN {i : Nat} : env0 [] i = .dead := nrfl rfl
@[go_sem] theorem gs0 {o : Oper} {l : List Oper} : gslot (o :: l) 0 = o.dst := nrfl rfl
@[go_sem] theorem gsS {o : Oper} {l : List Oper} {j : Nat} : gslot (o :: l) (j + 1) = gslot l j := nrfl rfl
@[go_sem ↓] theorem e_tmp {env : Env} {t : Tmp} : ev env (.tmp t) = env t := nrfl rfl
@[go_sem ↓] theorem e_const {env : Env} {v : Value} : ev env (.const v) = ofV v := nrfl rfl
@[go_sem ↓] theorem e_func {env : Env} {f : FuncId} : ev env (.func f) = .fn f [] := nrfl rfl
@[go_sem] theorem p_some {env : Env} {d : Tmp} {x : AV} : put env (some d) x = upd env d x := nrfl rfl
@[go_sem] theorem p_none {env : Env} {x : AV} : put env none x = env := nrfl rfl
@[go_sem] theorem v_int {k : IntKind} {i : Int} : ofV (.int k i) = .int k i := nrfl rfl
@[go_sem] theorem v_bool {b : Bool} : ofV (.bool b) = .bool b := nrfl rfl
@[go_sem] theorem v_str {s : ByteArray} : ofV (.string s) = .str s := nrfl rfl
@[go_sem] theorem v_nil : ofV (.slice none 0 0) = .nil := nrfl rfl
@[go_sem] theorem v_nilp : ofV (.pointer none) = .nilp := nrfl rfl

section
variable {d : Nat} {e : Operand → AV} {H : Heap} {K : AV → Heap → Prop}
@[go_sem ↓] theorem a_move {x : Operand} : aop P (.move x) d e H K = sv (e x) fun v => K v H := nrfl rfl
@[go_sem ↓] theorem a_assign {x : Operand} : aop P (.assign x) d e H K = sv (e x) fun v => K v H := nrfl rfl
@[go_sem ↓] theorem a_pick {c x y : Operand} : aop P (.pick c x y) d e H K = sv (e c) fun c => sv2 (e x) (e y) fun x y => apick c x y fun v => sv v fun v => K v H := nrfl rfl
@[go_sem ↓] theorem a_alloc {t : TypeId} : aop P (.alloc t) d e H K = aalloc P t d H K := nrfl rfl
@[go_sem ↓] theorem a_box {t : TypeId} {x : Operand} : aop P (.box t x) d e H K = sv (e x) fun x => abox t x d H K := nrfl rfl
@[go_sem ↓] theorem a_build {t : TypeId} {ps : Array (Nat × Operand)} : aop P (.build t ps) d e H K = sv (ps.toList.map fun p => (p.1, e p.2)) fun ps => abuild P t ps fun v => sv v fun v => K v H := nrfl rfl
@[go_sem ↓] theorem a_lit {t : TypeId} {k : Nat} {ps : Array (Nat × Operand)} : aop P (.buildSlice t k ps) d e H K = sv (ps.toList.map fun p => (p.1, e p.2)) fun ps => abuildSlice P t k ps d H K := nrfl rfl
@[go_sem ↓] theorem a_load {t : TypeId} {x : Operand} : aop P (.load t x) d e H K = sv (e x) fun x => aload P t x H fun v => sv v fun v => K v H := nrfl rfl
@[go_sem ↓] theorem a_store {t : TypeId} {x y : Operand} : aop P (.store t x y) d e H K = sv2 (e x) (e y) fun x y => astore P t x y H (K .dead) := nrfl rfl
@[go_sem ↓] theorem a_nil {x : Operand} : aop P (.nilCheck x) d e H K = sv (e x) fun x => anil x H fun v => K v H := nrfl rfl
@[go_sem ↓] theorem a_bin {op : BinOp} {t t' : TypeId} {x y : Operand} : aop P (.binOp op t x y t') d e H K = sv2 (e x) (e y) fun x y => abin P op t x y H fun v => sv v fun v => K v H := nrfl rfl
@[go_sem ↓] theorem a_un {op : UnOp} {t : TypeId} {x : Operand} : aop P (.unOp op t x) d e H K = sv (e x) fun x => aun op x fun v => sv v fun v => K v H := nrfl rfl
@[go_sem ↓] theorem a_conv {s t : TypeId} {x : Operand} : aop P (.convert s t x) d e H K = sv (e x) fun x => aconv P s t x fun v => sv v fun v => K v H := nrfl rfl
@[go_sem ↓] theorem a_func {g : FuncId} {cap : Array Operand} : aop P (.makeFunc (.func g) #[] cap) d e H K = sv (cap.toList.map e) fun cs => K (.fn g cs) H := by simp [aop, sv]
@[go_sem ↓] theorem a_make {t : TypeId} {l c : Operand} : aop P (.makeSlice t l c) d e H K = sv2 (e l) (e c) fun l c => amake P t l c d H K := nrfl rfl
@[go_sem ↓] theorem a_slice {t : TypeId} {x : Operand} {lo hi : Option Operand} : aop P (.slice t x lo hi none) d e H K = sv (e x) fun x => sv2 (lo.map e) (hi.map e) fun lo hi => aslice P t x lo hi H fun v => sv v fun v => K v H := nrfl rfl
@[go_sem ↓] theorem a_fldAddr {t : TypeId} {x : Operand} {i : Nat} : aop P (.fieldAddr t x i) d e H K = sv (e x) fun x => afldAddr P t x i H fun v => sv v fun v => K v H := nrfl rfl
@[go_sem ↓] theorem a_fld {t : TypeId} {x : Operand} {i : Nat} : aop P (.field t x i) d e H K = sv (e x) fun x => afld P t x i fun v => sv v fun v => K v H := nrfl rfl
@[go_sem ↓] theorem a_idxAddr {t : TypeId} {x i : Operand} : aop P (.indexAddr t x i) d e H K = sv2 (e x) (e i) fun x i => aidxAddr P t x i H fun v => sv v fun v => K v H := nrfl rfl
@[go_sem ↓] theorem a_index {t : TypeId} {x i : Operand} : aop P (.index t x i) d e H K = sv2 (e x) (e i) fun x i => aindex P t x i fun v => sv v fun v => K v H := nrfl rfl
@[go_sem ↓] theorem a_extract {x : Operand} {i : Nat} : aop P (.extract x i) d e H K = sv (e x) fun x => aextract x i fun v => sv v fun v => K v H := nrfl rfl
@[go_sem ↓] theorem a_call {f : Operand} {as : Array Operand} {ts : Array TypeId} : aop P (.call ⟨.value f, as, ts⟩) d e H K = sv2 (e f) (as.toList.map e) fun f as => (match f with | .fn g caps => ACall P g (as ++ caps) H fun v H' => K v H' | _ => False) := nrfl rfl
@[go_sem ↓] theorem a_builtin {b : Builtin} {as : Array Operand} {ts : Array TypeId} : aop P (.call ⟨.builtin b, as, ts⟩) d e H K = sv (as.toList.map e) fun as => abuiltin P b as ts.toList d H K := nrfl rfl
end

/-! ### Numbers -/
section
variable {H : Heap} {K : AV → Prop} {k k' : IntKind} {x y : Int} {t : TypeId} {op : BinOp}
@[congr] theorem abin_congr {u v : AV} {tk : Prop} (hk : Tick = tk) : abin P op t u v H K = abin P op t u v H K := rfl
@[congr] theorem abinInt_congr {tk : Prop} (hk : Tick = tk) : abinInt op k x k' y K = abinInt op k x k' y K := rfl
@[congr] theorem abinStr_congr {u v : ByteArray} {tk : Prop} (hk : Tick = tk) : abinStr op u v K = abinStr op u v K := rfl
@[congr] theorem aun_congr {op : UnOp} {u : AV} {tk : Prop} (hk : Tick = tk) : aun op u K = aun op u K := rfl
@[congr] theorem aconv_congr {s t : TypeId} {u : AV} {tk : Prop} (hk : Tick = tk) : aconv P s t u K = aconv P s t u K := rfl
@[go_sem ↓] theorem b_int : abin P op t (.int k x) (.int k' y) H K = abinInt op k x k' y K := nrfl rfl
@[go_sem ↓] theorem b_str {u v : ByteArray} : abin P op t (.str u) (.str v) H K = abinStr op u v K := nrfl rfl
@[go_sem ↓] theorem b_add : abinInt .add k x k y K = K (.int k (k.wrap (x + y))) := by simp [abinInt]
@[go_sem ↓] theorem b_sub : abinInt .sub k x k y K = K (.int k (k.wrap (x - y))) := by simp [abinInt]
@[go_sem ↓] theorem b_mul : abinInt .mul k x k y K = K (.int k (k.wrap (x * y))) := by simp [abinInt]
@[go_sem ↓] theorem b_quo : abinInt .quo k x k y K = (y ≠ 0 ∧ K (.int k (k.wrap (x.tdiv y)))) := by simp [abinInt]
@[go_sem ↓] theorem b_rem : abinInt .rem k x k y K = (y ≠ 0 ∧ K (.int k (x.tmod y))) := by simp [abinInt]
@[go_sem ↓] theorem b_shl : abinInt .shl k x k' y K = (0 ≤ y ∧ K (.int k (k.wrap (x * 2 ^ (min y.toNat k.bits))))) := nrfl rfl
@[go_sem ↓] theorem b_shr : abinInt .shr k x k' y K = (0 ≤ y ∧ K (.int k (x.fdiv (2 ^ (min y.toNat k.bits))))) := nrfl rfl
@[go_sem ↓] theorem b_and : abinInt .and k x k y K = K (.int k (abits .and k x y)) := by simp [abinInt]
@[go_sem ↓] theorem b_or : abinInt .or k x k y K = K (.int k (abits .or k x y)) := by simp [abinInt]
@[go_sem ↓] theorem b_xor : abinInt .xor k x k y K = K (.int k (abits .xor k x y)) := by simp [abinInt]
@[go_sem ↓] theorem b_andNot : abinInt .andNot k x k y K = K (.int k (abits .andNot k x y)) := by simp [abinInt]
@[go_sem ↓] theorem b_eql : abinInt .eql k x k y K = K (.bool (decide (x = y))) := by simp [abinInt]
@[go_sem ↓] theorem b_neq : abinInt .neq k x k y K = K (.bool (!decide (x = y))) := by simp [abinInt]
@[go_sem ↓] theorem b_lss : abinInt .lss k x k y K = K (.bool (decide (x < y))) := by simp [abinInt]
@[go_sem ↓] theorem b_leq : abinInt .leq k x k y K = K (.bool (decide (x ≤ y))) := by simp [abinInt]
@[go_sem ↓] theorem b_gtr : abinInt .gtr k x k y K = K (.bool (decide (y < x))) := by simp [abinInt]
@[go_sem ↓] theorem b_geq : abinInt .geq k x k y K = K (.bool (decide (y ≤ x))) := by simp [abinInt]
@[go_sem ↓] theorem s_add {u v : ByteArray} : abinStr .add u v K = (u.size + v.size ≤ 9223372036854775807 ∧ K (.str (u ++ v))) := nrfl rfl
@[go_sem ↓] theorem s_eql {u v : ByteArray} : abinStr .eql u v K = K (.bool (u.toList == v.toList)) := nrfl rfl
@[go_sem ↓] theorem s_neq {u v : ByteArray} : abinStr .neq u v K = K (.bool (!(u.toList == v.toList))) := nrfl rfl
@[go_sem ↓] theorem l_eql {p q : Bool} : abin P .eql t (.bool p) (.bool q) H K = (P.underlying t = some .bool ∧ K (.bool (p == q))) := nrfl rfl
@[go_sem ↓] theorem l_neq {p q : Bool} : abin P .neq t (.bool p) (.bool q) H K = (P.underlying t = some .bool ∧ K (.bool (!(p == q)))) := nrfl rfl
@[go_sem ↓] theorem z_slE {sz : Nat} {es : List AV} : abin P .eql t (.sl sz es) .nil H K = ((∃ e, telem P t = some e) ∧ ∀ b : Bool, (b = true → es = []) → K (.bool b)) := nrfl rfl
@[go_sem ↓] theorem z_slN {sz : Nat} {es : List AV} : abin P .neq t (.sl sz es) .nil H K = ((∃ e, telem P t = some e) ∧ ∀ b : Bool, (b = true → es = []) → K (.bool (!b))) := nrfl rfl
@[go_sem ↓] theorem z_nilE : abin P .eql t .nil .nil H K = ((∃ e, telem P t = some e) ∧ K (.bool true)) := nrfl rfl
@[go_sem ↓] theorem z_nilN : abin P .neq t .nil .nil H K = ((∃ e, telem P t = some e) ∧ K (.bool false)) := nrfl rfl
@[go_sem ↓] theorem q_structE {cs ds : List AV} : abin P .eql t (.agg cs) (.agg ds) H K = (tcmp P t cs.length = true ∧ cs.length = ds.length ∧ eqInts cs ds fun r => sv (AV.bool r) fun v => K v) := nrfl rfl
@[go_sem ↓] theorem q_structN {cs ds : List AV} : abin P .neq t (.agg cs) (.agg ds) H K = (tcmp P t cs.length = true ∧ cs.length = ds.length ∧ eqInts cs ds fun r => sv (AV.bool (!r)) fun v => K v) := nrfl rfl
@[congr] theorem eqInts_congr {l l' : List AV} {K : Bool → Prop} {tk : Prop} (hk : Tick = tk) : eqInts l l' K = eqInts l l' K := rfl
@[go_sem ↓] theorem q_ints0 {K : Bool → Prop} : eqInts [] [] K = K true := nrfl rfl
@[go_sem ↓] theorem q_intsS {a b : Int} {l l' : List AV} {K : Bool → Prop} : eqInts (.int k a :: l) (.int k b :: l') K = eqInts l l' fun r => K (decide (a = b) && r) := by simp [eqInts]
@[go_sem ↓] theorem u_not {b : Bool} : aun .not (.bool b) K = K (.bool (!b)) := nrfl rfl
@[go_sem ↓] theorem u_neg : aun .neg (.int k x) K = K (.int k (k.wrap (0 - x))) := nrfl rfl
@[go_sem ↓] theorem u_xor : aun .xor (.int k x) K = K (.int k (abits .xor k (if k.signed then -1 else k.max) x)) := nrfl rfl
end

/-! ### Memory -/
section
variable {H : Heap} {t : TypeId} {id ver off : Nat}
/-- What stands in a block. -/
def withB (b : Blk) (ver : Nat) (K : TypeId → Nat → List AV → Prop) : Prop := match b with | .cells v T sz cs => v = ver ∧ K T sz cs | .gone _ => False
@[congr] theorem withB_congr {b b' : Blk} {ver : Nat} {K : TypeId → Nat → List AV → Prop} {tk : Prop} (h : b = b') (hk : Tick = tk) : withB b ver K = withB b' ver K := by rw [h]
@[go_sem ↓] theorem withB_same {ver : Nat} {T sz : Nat} {cs : List AV} {K : TypeId → Nat → List AV → Prop} : withB (.cells ver T sz cs) ver K = K T sz cs := by simp [withB]
@[go_sem ↓ low] theorem withB_ne {ver v : Nat} {T sz : Nat} {cs : List AV} {K : TypeId → Nat → List AV → Prop} : withB (.cells v T sz cs) ver K = (v = ver ∧ K T sz cs) := nrfl rfl
def ldB (P : Program) (t : TypeId) (b : Bool) (cs : List AV) (off : Nat) (K : AV → Prop) : Prop := match b with
  | true => withO (tsz P t) fun n => n ≠ 0 ∧ off + n ≤ cs.length ∧ sv ((cs.drop off).take n) fun cs => K (.agg cs)
  | false => withO cs[off]? fun v => sv v fun v => K v
@[go_sem ↓] theorem ldB_t {cs : List AV} {K : AV → Prop} : ldB P t true cs off K = withO (tsz P t) fun n => n ≠ 0 ∧ off + n ≤ cs.length ∧ sv ((cs.drop off).take n) fun cs => K (.agg cs) := nrfl rfl
@[go_sem ↓] theorem ldB_f {cs : List AV} {K : AV → Prop} : ldB P t false cs off K = withO cs[off]? fun v => sv v fun v => K v := nrfl rfl
@[go_sem ↓] theorem ld_ptr {K : AV → Prop} : aload P t (.ptr id ver off) H K = withB (H id) ver fun _ _ cs => withO (tagg P t) fun b => ldB P t b cs off K := by
  simp only [aload, withB, withO, sv, ldB]
  cases H id with
  | gone v => rfl
  | cells v T sz cs =>
    simp only []
    cases tagg P t with
    | none => rfl
    | some b => cases b <;> simp only [] <;> first | (cases tsz P t <;> rfl) | (cases cs[off]? <;> rfl)
def ldD (P : Program) (t : TypeId) (b : Bool) (y : AV) (K : AV → Prop) : Prop := match b, y with
  | true, .agg cs => tsz P t = some cs.length ∧ K (.agg cs)
  | false, y => y.scalar = true ∧ K y
  | _, _ => False
@[go_sem ↓] theorem ldD_t {cs : List AV} {K : AV → Prop} : ldD P t true (.agg cs) K = (tsz P t = some cs.length ∧ K (.agg cs)) := nrfl rfl
@[go_sem ↓] theorem ldD_f {y : AV} {K : AV → Prop} : ldD P t false y K = (y.scalar = true ∧ K y) := nrfl rfl
@[congr] theorem ldD_congr {b : Bool} {y : AV} {K : AV → Prop} {tk : Prop} (hk : Tick = tk) : ldD P t b y K = ldD P t b y K := rfl
@[go_sem ↓] theorem ld_adr {y : AV} {K : AV → Prop} : aload P t (.adr y) H K = sv y fun y => withO (tagg P t) fun b => ldD P t b y K := by
  simp only [aload, withO, ldD, sv]
  cases tagg P t with
  | none => rfl
  | some b => cases b <;> cases y <;> rfl
@[go_sem ↓] theorem st_ptr {y : AV} {K : Heap → Prop} : astore P t (.ptr id ver off) y H K = withB (H id) ver fun T sz cs => sv (flat y) fun ys => 0 < ys.length ∧ y.boxable = true ∧ ys.all AV.scalar = true ∧ tsz P t = some ys.length ∧ off + ys.length ≤ cs.length ∧ sv (wr cs off ys) fun cs => K (upd H id (.cells ver T sz cs)) := by
  simp only [astore, withB, sv]
  cases H id <;> rfl
@[go_sem ↓] theorem nl_adr {y : AV} {K : AV → Prop} : anil (.adr y) H K = K (.adr y) := nrfl rfl
@[go_sem ↓] theorem nl_ptr {K : AV → Prop} : anil (.ptr id ver off) H K = withB (H id) ver fun _ _ cs => cs ≠ [] ∧ K (.ptr id ver off) := by
  simp only [anil, withB]; cases H id <;> simp
@[go_sem ↓] theorem ix_sl {sz : Nat} {es : List AV} {k : IntKind} {i : Int} {K : AV → Prop} : aidxAddr P t (.sl sz es) (.int k i) H K = withO (telem P t) fun e => tsz P e = some sz ∧ 0 ≤ i ∧ withO es[i.toNat]? fun y => K (.adr y) := by
  simp only [aidxAddr, withO]; cases telem P t <;> first | rfl | (simp only []; cases es[i.toNat]? <;> rfl)
@[go_sem ↓] theorem ix_ref {len : Nat} {k : IntKind} {i : Int} {K : AV → Prop} : aidxAddr P t (.ref id ver off len) (.int k i) H K = withO (telem P t) fun e => withB (H id) ver fun T sz cs => tsz P e = some sz ∧ 0 ≤ i ∧ i < len ∧ sv (off + i.toNat * sz) fun o => K (.ptr id ver o) := by
  simp only [aidxAddr, withO, withB, sv]; cases telem P t <;> first | rfl | (cases H id <;> rfl)
@[go_sem ↓] theorem fa_ptr {i : Nat} {K : AV → Prop} : afldAddr P t (.ptr id ver off) i H K = withO (tfld P t i) fun p => withB (H id) ver fun _ _ cs => cs ≠ [] ∧ (tsz P p.2).getD 0 ≠ 0 ∧ sv (off + p.1) fun o => K (.ptr id ver o) := by
  simp only [afldAddr, withO, withB, sv]; cases tfld P t i <;> first | rfl | (cases H id <;> rfl)
def faB (b : Bool) (off n : Nat) (cs : List AV) (K : AV → Prop) : Prop := match b with
  | true => n ≠ 0 ∧ off + n ≤ cs.length ∧ sv ((cs.drop off).take n) fun cs => K (.adr (.agg cs))
  | false => n ≠ 0 ∧ withO cs[off]? fun y => sv y fun y => y.scalar = true ∧ K (.adr y)
@[go_sem ↓] theorem faB_t {n : Nat} {cs : List AV} {K : AV → Prop} : faB true off n cs K = (n ≠ 0 ∧ off + n ≤ cs.length ∧ sv ((cs.drop off).take n) fun cs => K (.adr (.agg cs))) := nrfl rfl
@[go_sem ↓] theorem faB_f {n : Nat} {cs : List AV} {K : AV → Prop} : faB false off n cs K = (n ≠ 0 ∧ withO cs[off]? fun y => sv y fun y => y.scalar = true ∧ K (.adr y)) := nrfl rfl
@[go_sem ↓] theorem fa_adr {i : Nat} {cs : List AV} {K : AV → Prop} : afldAddr P t (.adr (.agg cs)) i H K = withO (tfld P t i) fun p => withO (tagg P p.2) fun b => withO (tsz P p.2) fun n => faB b p.1 n cs K := by
  simp only [afldAddr, withO, faB, sv]
  cases tfld P t i with
  | none => rfl
  | some p =>
    simp only []
    cases tagg P p.2 with
    | none => rfl
    | some b => cases tsz P p.2 <;> cases b <;> first | rfl | (simp only []; cases cs[p.1]? <;> rfl)
def flB (P : Program) (ft : TypeId) (b : Bool) (off : Nat) (cs : List AV) (K : AV → Prop) : Prop := match b with
  | true => withO (tsz P ft) fun n => off + n ≤ cs.length ∧ sv ((cs.drop off).take n) fun cs => K (.agg cs)
  | false => withO cs[off]? fun v => sv v fun v => K v
@[go_sem ↓] theorem flB_t {ft : TypeId} {cs : List AV} {K : AV → Prop} : flB P ft true off cs K = withO (tsz P ft) fun n => off + n ≤ cs.length ∧ sv ((cs.drop off).take n) fun cs => K (.agg cs) := nrfl rfl
@[go_sem ↓] theorem flB_f {ft : TypeId} {cs : List AV} {K : AV → Prop} : flB P ft false off cs K = withO cs[off]? fun v => sv v fun v => K v := nrfl rfl
@[go_sem ↓] theorem fl_agg {i : Nat} {cs : List AV} {K : AV → Prop} : afld P t (.agg cs) i K = withO (tfld P t i) fun p => withO (tagg P p.2) fun b => flB P p.2 b p.1 cs K := by
  simp only [afld, withO, flB, sv]
  cases tfld P t i with
  | none => rfl
  | some p =>
    simp only []
    cases tagg P p.2 with
    | none => rfl
    | some b => cases b <;> simp only [] <;> first | (cases tsz P p.2 <;> rfl) | (cases cs[p.1]? <;> rfl)
@[go_sem ↓] theorem c_int {s t : TypeId} {k : IntKind} {x : Int} {K : AV → Prop} : aconv P s t (.int k x) K = ((P.underlying s).isSome = true ∧ withO (tint P t) fun k' => sv (k'.wrap x) fun n => K (.int k' n)) := by
  simp only [aconv, withO, sv]; cases tint P t <;> rfl

/-! ### Making -/
variable {d : Nat}
@[go_sem ↓] theorem m_alloc {K : AV → Heap → Prop} : aalloc P t d H K = withO (tzero P t) fun zs => sv ((H d).ver + 1) fun v => K (.ptr d v 0) (upd H d (.cells v t 1 zs)) := by
  simp only [aalloc, withO, sv]; cases tzero P t <;> rfl
@[go_sem ↓] theorem m_box {x : AV} {K : AV → Heap → Prop} : abox t x d H K = (x.boxable = true ∧ sv2 ((H d).ver + 1) (flat x) fun v cs => K (.ptr d v 0) (upd H d (.cells v t 1 cs))) := nrfl rfl
@[congr] theorem abuildGo_congr {ps : List (Nat × AV)} {cs : List AV} {K : List AV → Prop} {tk : Prop} (hk : Tick = tk) : abuildGo P t ps cs K = abuildGo P t ps cs K := rfl
@[congr] theorem alitGo_congr {sz : Nat} {ps : List (Nat × AV)} {cs : List AV} {K : List AV → Prop} {tk : Prop} (hk : Tick = tk) : alitGo sz ps cs K = alitGo sz ps cs K := rfl
@[go_sem ↓] theorem m_build {ps : List (Nat × AV)} {K : AV → Prop} : abuild P t ps K = (tstruct P t = true ∧ withO (tzero P t) fun zs => abuildGo P t ps zs fun cs => K (.agg cs)) := by
  simp only [abuild, withO]; cases tzero P t <;> rfl
@[go_sem ↓] theorem m_go0 {cs : List AV} {K : List AV → Prop} : abuildGo P t [] cs K = sv cs fun cs => K cs := nrfl rfl
@[go_sem ↓] theorem m_goS {i : Nat} {x : AV} {r : List (Nat × AV)} {cs : List AV} {K : List AV → Prop} : abuildGo P t ((i, x) :: r) cs K = withO (tfld P t i) fun p => sv (flat x) fun xs => tsz P p.2 = some xs.length ∧ x.boxable = true ∧ p.1 + xs.length ≤ cs.length ∧ sv (wr cs p.1 xs) fun cs => abuildGo P t r cs K := by
  simp only [abuildGo, withO, sv]; cases tfld P t i <;> rfl
@[go_sem ↓] theorem m_lit0 {sz : Nat} {cs : List AV} {K : List AV → Prop} : alitGo sz [] cs K = sv cs fun cs => K cs := nrfl rfl
@[go_sem ↓] theorem m_litS {sz i : Nat} {x : AV} {r : List (Nat × AV)} {cs : List AV} {K : List AV → Prop} : alitGo sz ((i, x) :: r) cs K = sv (flat x) fun xs => xs.length = sz ∧ x.boxable = true ∧ i * sz + sz ≤ cs.length ∧ sv (wr cs (i * sz) xs) fun cs => alitGo sz r cs K := nrfl rfl
@[go_sem ↓] theorem m_slice {n : Nat} {ps : List (Nat × AV)} {K : AV → Heap → Prop} : abuildSlice P t n ps d H K = withO (telem P t) fun e => withO (tsz P e) fun sz => withO (tzero P e) fun zs => n * sz ≤ 16777216 ∧ sv (List.replicate (n * sz) .dead) fun cs => alitGo sz ps cs fun cs => sv ((H d).ver + 1) fun v => K (.ref d v 0 n) (upd H d (.cells v e sz cs)) := by
  simp only [abuildSlice, withO, sv]
  cases telem P t with
  | none => rfl
  | some e => simp only []; cases tsz P e <;> cases tzero P e <;> rfl
@[go_sem ↓] theorem m_make {n k : Int} {K : AV → Heap → Prop} : amake P t (.int .i64 n) (.int .i64 k) d H K = withO (telem P t) fun e => withO (tsz P e) fun sz => withO (tby P e) fun b => withO (tzero P e) fun zs => 0 ≤ n ∧ n ≤ k ∧ k ≤ 281474976710656 ∧ (b : Int) * k ≤ 281474976710656 ∧ zs.length = sz ∧ sz ≠ 0 ∧
    sv2 ((H d).ver + 1) (reps k.toNat zs) fun v cs => K (.ref d v 0 n.toNat) (upd H d (.cells v e sz cs)) := by
  simp only [amake, withO, sv2]
  cases telem P t with
  | none => rfl
  | some e => simp only []; cases tsz P e <;> cases tby P e <;> cases tzero P e <;> rfl
@[congr] theorem abuiltin_congr {b : Builtin} {as as' : List AV} {ts ts' : List TypeId} {K : AV → Heap → Prop} {tk : Prop} (h : as = as') (h' : ts = ts') (hk : Tick = tk) : abuiltin P b as ts d H K = abuiltin P b as' ts' d H K := by rw [h, h']
@[go_sem ↓] theorem bi_len {x : AV} {K : AV → Heap → Prop} : abuiltin P .len [x] [t] d H K = alen P t x H fun v => sv v fun v => K v H := nrfl rfl
@[go_sem ↓] theorem bi_append {s x : AV} {t' : TypeId} {K : AV → Heap → Prop} : abuiltin P .append [s, x] [t, t'] d H K = (t = t' ∧ aappend P t s x d H K) := nrfl rfl
@[go_sem ↓] theorem bi_min {k k' : IntKind} {n n' : Int} {ts : List TypeId} {K : AV → Heap → Prop} : abuiltin P .min [.int k n, .int k' n'] ts d H K = (k = k' ∧ K (.int k (if n' < n then n' else n)) H) := by simp [abuiltin, amm]
@[go_sem ↓] theorem bi_max {k k' : IntKind} {n n' : Int} {ts : List TypeId} {K : AV → Heap → Prop} : abuiltin P .max [.int k n, .int k' n'] ts d H K = (k = k' ∧ K (.int k (if n < n' then n' else n)) H) := by simp [abuiltin, amm]
@[go_sem ↓] theorem bi_copy {s x : AV} {t' : TypeId} {K : AV → Heap → Prop} : abuiltin P .copy [s, x] [t, t'] d H K = acopy P t s x H K := nrfl rfl
@[congr] theorem acopy_congr {s x : AV} {K : AV → Heap → Prop} {tk : Prop} (hk : Tick = tk) : acopy P t s x H K = acopy P t s x H K := rfl
@[congr] theorem alen_congr {x : AV} {K : AV → Prop} {tk : Prop} (hk : Tick = tk) : alen P t x H K = alen P t x H K := rfl
@[go_sem ↓] theorem ln_sl {sz : Nat} {es : List AV} {K : AV → Prop} : alen P t (.sl sz es) H K = withO (telem P t) fun _ => K (.int .i64 es.length) := by
  simp only [alen, withO]; cases telem P t <;> simp
@[go_sem ↓] theorem ln_nil {K : AV → Prop} : alen P t .nil H K = withO (telem P t) fun _ => K (.int .i64 0) := by
  simp only [alen, withO]; cases telem P t <;> simp
@[go_sem ↓] theorem ln_ref {len : Nat} {K : AV → Prop} : alen P t (.ref id ver off len) H K = withO (telem P t) fun _ => withB (H id) ver fun _ _ _ => K (.int .i64 len) := by
  simp only [alen, withO, withB]; cases telem P t <;> cases H id <;> simp
@[go_sem ↓] theorem ln_str {s : ByteArray} {K : AV → Prop} : alen P t (.str s) H K = (P.underlying t = some .string ∧ K (.int .i64 s.size)) := nrfl rfl
@[congr] theorem asrc_congr {sz : Nat} {x : AV} {K : List AV → Nat → Prop} {tk : Prop} (hk : Tick = tk) : asrc sz H x K = asrc sz H x K := rfl
@[go_sem ↓] theorem sr_nil {sz : Nat} {K : List AV → Nat → Prop} : asrc sz H .nil K = K [] 0 := nrfl rfl
@[go_sem ↓] theorem sr_sl {sz sz' : Nat} {es : List AV} {K : List AV → Nat → Prop} : asrc sz H (.sl sz' es) K = (sz' = sz ∧ sv (es.flatMap flat) fun news => K news es.length) := nrfl rfl
@[go_sem ↓] theorem sr_ref {sz len : Nat} {K : List AV → Nat → Prop} : asrc sz H (.ref id ver off len) K = withB (H id) ver fun T sz' cs => sz' = sz ∧ off + len * sz ≤ cs.length ∧ sv ((cs.drop off).take (len * sz)) fun news => K news len := by
  simp only [asrc, withB, sv]; cases H id <;> rfl
@[congr] theorem aappend_congr {s x : AV} {K : AV → Heap → Prop} {tk : Prop} (hk : Tick = tk) : aappend P t s x d H K = aappend P t s x d H K := rfl
@[go_sem ↓] theorem ap_ref {len : Nat} {x : AV} {K : AV → Heap → Prop} : aappend P t (.ref id ver off len) x d H K = withO (telem P t) fun e => withO (tsz P e) fun sz => withO (tby P e) fun b => withO (tzero P e) fun zs => sz ≠ 0 ∧ b ≠ 0 ∧ zs.length = sz ∧ asrc sz H x fun news n => withB (H id) ver fun T sz' cs => T = e ∧ sz' = sz ∧ off + len * sz ≤ cs.length ∧ (len + n) * b ≤ 140737488355328 ∧ news.all AV.scalar = true ∧
    sv2 (len + n) ((cs.drop off).take (len * sz) ++ news) fun l cs => K (.ref id (ver + 1) 0 l) (upd H id (.cells (ver + 1) e sz cs)) := by
  simp only [aappend, withO, withB, sv2]
  cases telem P t with
  | none => rfl
  | some e =>
    simp only []
    cases tsz P e <;> cases tby P e <;> cases tzero P e <;> first
      | rfl
      | (simp only []; congr 3; congr 1; funext news n; cases H id <;> rfl)
@[go_sem ↓] theorem ap_nil {x : AV} {K : AV → Heap → Prop} : aappend P t .nil x d H K = withO (telem P t) fun e => withO (tsz P e) fun sz => withO (tby P e) fun b => withO (tzero P e) fun zs => sz ≠ 0 ∧ b ≠ 0 ∧ zs.length = sz ∧ asrc sz H x fun news n => n * b ≤ 140737488355328 ∧ news.all AV.scalar = true ∧
    sv ((H d).ver + 1) fun v => K (.ref d v 0 n) (upd H d (.cells v e sz news)) := by
  simp only [aappend, withO, sv]
  cases telem P t with
  | none => rfl
  | some e => simp only []; cases tsz P e <;> cases tby P e <;> cases tzero P e <;> rfl
@[go_sem ↓] theorem cp_ref {len : Nat} {x : AV} {K : AV → Heap → Prop} : acopy P t (.ref id ver off len) x H K = withO (telem P t) fun e => tsz P e = some 1 ∧ asrc 1 H x fun news n => withB (H id) ver fun T sz' cs => T = e ∧ sz' = 1 ∧ off + len ≤ cs.length ∧ news.all AV.scalar = true ∧
    sv (min n len) fun k => sv (cs.take off ++ news.take k ++ cs.drop (off + k)) fun cs => K (.int .i64 (k : Int)) (upd H id (.cells ver e 1 cs)) := by
  simp only [acopy, withO, withB, sv]
  cases telem P t with
  | none => rfl
  | some e => simp only []; congr 2
@[congr] theorem aextract_congr {x : AV} {i : Nat} {K : AV → Prop} {tk : Prop} (hk : Tick = tk) : aextract x i K = aextract x i K := rfl
@[go_sem ↓] theorem ex_tup {vs : List AV} {i : Nat} {K : AV → Prop} : aextract (.tup vs) i K = withO vs[i]? K := by
  simp only [aextract, withO]; cases vs[i]? <;> rfl
@[congr] theorem aslice_congr {x : AV} {lo hi : Option AV} {K : AV → Prop} {tk : Prop} (hk : Tick = tk) : aslice P t x lo hi H K = aslice P t x lo hi H K := rfl
@[congr] theorem aindex_congr {x i : AV} {K : AV → Prop} {tk : Prop} (hk : Tick = tk) : aindex P t x i K = aindex P t x i K := rfl
@[congr] theorem abound_congr {x : Option AV} {n : Nat} {K : Nat → Prop} {tk : Prop} (hk : Tick = tk) : abound x n K = abound x n K := rfl
@[go_sem ↓] theorem bd_none {n : Nat} {K : Nat → Prop} : abound none n K = K n := nrfl rfl
@[go_sem ↓] theorem bd_some {n : Nat} {k : IntKind} {x : Int} {K : Nat → Prop} : abound (some (.int k x)) n K = (0 ≤ x ∧ sv x.toNat fun m => K m) := nrfl rfl
@[go_sem ↓] theorem sc_sl {sz : Nat} {es : List AV} {lo hi : Option AV} {K : AV → Prop} : aslice P t (.sl sz es) lo hi H K = withO (telem P t) fun e => tsz P e = some sz ∧ abound hi es.length fun h => abound lo 0 fun l => l ≤ h ∧ h ≤ es.length ∧ sv ((es.take h).drop l) fun es => K (.sl sz es) := by
  simp only [aslice, withO, sv]; cases telem P t <;> rfl
@[go_sem ↓] theorem sc_ref {len : Nat} {lo hi : Option AV} {K : AV → Prop} : aslice P t (.ref id ver off len) lo hi H K = withO (telem P t) fun e => withB (H id) ver fun T sz cs => tsz P e = some sz ∧ abound hi len fun h => abound lo 0 fun l => l ≤ h ∧ h ≤ len ∧ sv2 (off + l * sz) (h - l) fun o n => K (.ref id ver o n) := by
  simp only [aslice, withO, withB, sv2]; cases telem P t <;> cases H id <;> rfl
@[go_sem ↓] theorem sc_str {s : ByteArray} {lo hi : Option AV} {K : AV → Prop} : aslice P t (.str s) lo hi H K = (P.underlying t = some .string ∧ abound hi s.size fun h => abound lo 0 fun l => l ≤ h ∧ h ≤ s.size ∧ K (.str (s.extract l h))) := nrfl rfl
@[go_sem ↓] theorem xi_str {s : ByteArray} {k : IntKind} {n : Int} {K : AV → Prop} : aindex P t (.str s) (.int k n) K = (P.underlying t = some .string ∧ 0 ≤ n ∧ withO s.data[n.toNat]? fun b => K (.int .u8 b.toNat)) := by
  simp only [aindex, withO]; cases s.data[n.toNat]? <;> rfl

/-! ### Cells -/
@[go_sem] theorem f_int {k : IntKind} {n : Int} : flat (.int k n) = [.int k n] := nrfl rfl
@[go_sem] theorem f_bool {b : Bool} : flat (.bool b) = [.bool b] := nrfl rfl
@[go_sem] theorem f_str {b : ByteArray} : flat (.str b) = [.str b] := nrfl rfl
@[go_sem] theorem f_nil : flat .nil = [.nil] := nrfl rfl
@[go_sem] theorem f_nilp : flat .nilp = [.nilp] := nrfl rfl
@[go_sem] theorem f_sl {sz : Nat} {es : List AV} : flat (.sl sz es) = [.sl sz es] := nrfl rfl
@[go_sem] theorem f_ref {i v o n : Nat} : flat (.ref i v o n) = [.ref i v o n] := nrfl rfl
@[go_sem] theorem f_ptr {i v o : Nat} : flat (.ptr i v o) = [.ptr i v o] := nrfl rfl
@[go_sem] theorem f_fn {f : FuncId} {cs : List AV} : flat (.fn f cs) = [.fn f cs] := nrfl rfl
@[go_sem] theorem f_agg {cs : List AV} : flat (.agg cs) = cs := nrfl rfl
@[go_sem] theorem w_one {cs : List AV} {o : Nat} {x : AV} : wr cs o [x] = cs.set o x := nrfl rfl
@[go_sem] theorem w_two {cs : List AV} {o : Nat} {x y : AV} {xs : List AV} : wr cs o (x :: y :: xs) = cs.take o ++ (x :: y :: xs) ++ cs.drop (o + (x :: y :: xs).length) := nrfl rfl
@[go_sem] theorem w_zero {cs : List AV} {o : Nat} : wr cs o [] = cs := by simp [wr]
@[go_sem] theorem ver_c {v : Nat} {T sz : Nat} {cs : List AV} : (Blk.cells v T sz cs).ver = v := nrfl rfl
@[go_sem] theorem ver_g {v : Nat} : (Blk.gone v).ver = v := nrfl rfl
attribute [go_sem] AV.scalar AV.boxable List.all_cons List.all_nil List.length_cons List.length_nil List.getElem?_cons_zero List.getElem?_cons_succ List.set_cons_zero List.set_cons_succ List.drop_zero List.drop_succ_cons List.take_zero List.take_succ_cons
  List.nil_append List.cons_append List.append_nil List.replicate_succ List.replicate_zero Option.getD_some Option.getD_none Option.isSome_some true_and and_true not_false_eq_true ne_eq List.map_cons List.map_nil List.flatMap_cons List.flatMap_nil Option.map_some Option.map_none
  Bool.and_true Bool.true_and Bool.not_true Bool.not_false and_self implies_true Nat.zero_add Nat.add_zero Nat.mul_one Nat.le_refl List.cons_ne_nil reduceCtorEq Option.some.injEq Int.toNat_natCast List.length_map List.length_append List.getElem?_map eq_self Nat.zero_le
attribute [go_sem] Nat.reduceAdd Nat.reduceEqDiff Nat.reduceMul Nat.reduceLeDiff Nat.reduceSub Nat.reduceLT
attribute [go_sem] decide_true decide_false Bool.false_eq_true false_implies forall_const Bool.true_or Bool.false_or Bool.or_true Bool.or_false Bool.false_and Bool.and_false BEq.rfl
attribute [go_sem] Int.reduceEq Int.reduceNe Int.reduceLT Int.reduceLE Int.reduceAdd Int.reduceSub Int.reduceMul Int.reduceNeg Int.reduceToNat
attribute [go_sem ↓] reduceIte
theorem upd_at {α : Type} (f : Nat → α) (i : Nat) (x : α) (j : Nat) : upd f i x j = if j = i then x else f j := nrfl rfl
attribute [go_sem ↓] upd_at
end
end
end Go.Abs

/- The abstract machine, part Q: calls in common shapes. -/
set_option linter.unusedVariables false
set_option linter.unusedSimpArgs false
namespace Go.Abs
variable {P : Program} {g : FuncId}

/-- No reference. -/
def AV.closed (a : AV) : Bool := within (fun _ => false) anyAV a
theorem within_mono {L L' : Nat → Bool} {q q' : AV → Bool} (hL : ∀ i, L i = true → L' i = true) (hq : ∀ a, q a = true → q' a = true) : ∀ (a : AV), within L q a = true → within L' q' a = true := by
  have key : ∀ (n : Nat) (a : AV), SizeOf.sizeOf a < n → within L q a = true → within L' q' a = true := by
    intro n
    induction n with
    | zero => intro a h; omega
    | succ n ih =>
      intro a hn h
      have hl : ∀ (l : List AV), (∀ x ∈ l, SizeOf.sizeOf x < n) → withinL L q l = true → withinL L' q' l = true := by
        intro l
        induction l with
        | nil => intro _ h; rfl
        | cons x l ihl =>
          intro hx h
          simp only [withinL, Bool.and_eq_true] at h ⊢
          exact ⟨ih x (hx x (by simp)) h.1, ihl (fun y hy => hx y (by simp [hy])) h.2⟩
      have hs : ∀ (l : List AV) (x : AV), x ∈ l → SizeOf.sizeOf l < SizeOf.sizeOf a → SizeOf.sizeOf x < n := fun l x hx hla => by
        have := List.sizeOf_lt_of_mem hx; omega
      cases a <;> simp only [within] at h ⊢ <;> first
        | exact hL _ h
        | exact hq _ h
        | (refine hl _ (fun x hx => hs _ x hx (by simp <;> omega)) h; done)
  exact fun a => key (SizeOf.sizeOf a + 1) a (by omega)
theorem ren_closed (ρ : Nat → Nat) : ∀ (a : AV), a.closed = true → ren ρ a = a := by
  have key : ∀ (n : Nat) (a : AV), SizeOf.sizeOf a < n → a.closed = true → ren ρ a = a := by
    intro n
    induction n with
    | zero => intro a h; omega
    | succ n ih =>
      intro a hn h
      have hl : ∀ (l : List AV), (∀ x ∈ l, SizeOf.sizeOf x < n) → withinL (fun _ => false) anyAV l = true → renL ρ l = l := by
        intro l
        induction l with
        | nil => intro _ h; rfl
        | cons x l ihl =>
          intro hx h
          simp only [withinL, Bool.and_eq_true] at h
          simp only [renL]
          rw [ih x (hx x (by simp)) h.1, ihl (fun y hy => hx y (by simp [hy])) h.2]
      have hs : ∀ (l : List AV) (x : AV), x ∈ l → SizeOf.sizeOf l < SizeOf.sizeOf a → SizeOf.sizeOf x < n := fun l x hx hla => by
        have := List.sizeOf_lt_of_mem hx; omega
      unfold AV.closed at h
      cases a <;> simp only [within] at h <;> simp only [ren] <;> first
        | rfl
        | cases h
        | (congr 1; refine hl _ (fun x hx => hs _ x hx (by simp <;> omega)) h; done)
  exact fun a => key (SizeOf.sizeOf a + 1) a (by omega)
def closedL (l : List AV) : Bool := l.all AV.closed
theorem renL_closed (ρ : Nat → Nat) : ∀ (l : List AV), closedL l = true → renL ρ l = l
  | [], _ => rfl
  | a :: l, h => by
    simp only [closedL, List.all_cons, Bool.and_eq_true] at h
    simp only [renL]
    rw [ren_closed ρ a h.1, renL_closed ρ l h.2]
theorem withinL_closed {L : Nat → Bool} {q : AV → Bool} (hq : ∀ a, q a = true) : ∀ (l : List AV), closedL l = true → withinL L q l = true
  | [], _ => rfl
  | a :: l, h => by
    simp only [closedL, List.all_cons, Bool.and_eq_true] at h
    simp only [withinL, Bool.and_eq_true]
    exact ⟨within_mono (by simp) (fun a _ => hq a) a h.1, withinL_closed hq l h.2⟩
theorem within_closed {L : Nat → Bool} {a : AV} (h : a.closed = true) : within L anyAV a = true := within_mono (by simp) (fun a _ => rfl) a h
@[simp, go_sem] theorem cl_int {k : IntKind} {n : Int} : (AV.int k n).closed = true := rfl
@[simp, go_sem] theorem cl_bool {b : Bool} : (AV.bool b).closed = true := rfl
@[simp, go_sem] theorem cl_str {b : ByteArray} : (AV.str b).closed = true := rfl
@[simp, go_sem] theorem cl_nil : AV.nil.closed = true := rfl
@[simp, go_sem] theorem cl_nilp : AV.nilp.closed = true := rfl
@[simp, go_sem] theorem cl_sl {sz : Nat} {es : List AV} : (AV.sl sz es).closed = true := rfl
theorem withinL_iff {l : List AV} : withinL (fun _ => false) anyAV l = closedL l := by
  induction l with
  | nil => rfl
  | cons a l ih => simp only [withinL, closedL, List.all_cons, ih, AV.closed]
@[simp, go_sem] theorem cl_agg {l : List AV} : (AV.agg l).closed = closedL l := by simp [AV.closed, within, withinL_iff]
@[simp, go_sem] theorem cl_tup {l : List AV} : (AV.tup l).closed = closedL l := by simp [AV.closed, within, withinL_iff]
@[simp, go_sem] theorem cl_fn {f : FuncId} {l : List AV} : (AV.fn f l).closed = closedL l := by simp [AV.closed, within, withinL_iff]
@[simp, go_sem] theorem cll_nil : closedL [] = true := rfl
@[simp, go_sem] theorem cll_cons {a : AV} {l : List AV} : closedL (a :: l) = (a.closed && closedL l) := rfl
@[simp] theorem cll_app {k l : List AV} : closedL (k ++ l) = (closedL k && closedL l) := by simp [closedL]
theorem cll_map {α : Type} {f : α → AV} {l : List α} (h : ∀ x, (f x).closed = true) : closedL (l.map f) = true := by simp [closedL, h]

theorem views_closed {H : Heap} {L : Nat → Bool} {ρ : Nat → Nat} {β : Nat → Bool} : ∀ (l : List AV), closedL l = true → Views H L ρ β l l
  | [], _ => .nil
  | a :: l, h => by
    simp only [closedL, List.all_cons, Bool.and_eq_true] at h
    refine .cons _ _ _ _ ?_ (views_closed l h.2)
    have := View.ren (H := H) (L := L) (ρ := ρ) (β := β) a (within_closed h.1)
    rwa [ren_closed ρ a h.1] at this

def H0 : Heap := fun _ => .gone 0
/-- A call with frozen values; frozen values come back. -/
theorem ACall.pure {args : List AV} {H : Heap} {K : AV → Heap → Prop} (hc : closedL args = true) {R : AV → Heap → Prop} (h : ACall P g args H0 R)
    (hK : ∀ r' H', R r' H' → ∃ r, Res (fun _ => false) anyAV H' r' r ∧ r.closed = true ∧ K r H) : ACall P g args H K := by
  refine ACall.lift h [] id (fun _ => false) (fun _ => false) anyAV (by simp) (by simp) (by simp) (by simp) (fun i v T sz cs h => by cases h) (by simp) (by simp) (by simp) (.inl (by simp)) ?_ ?_
  · exact views_closed args hc
  · intro r' H' hR
    obtain ⟨r, h1, h2, h3⟩ := hK r' H' hR
    refine ⟨r, h1, by simp, ?_⟩
    rw [ren_closed id r h2]
    exact h3
theorem Res.cl {L : Nat → Bool} {H : Heap} {a : AV} (h : a.closed = true) : Res L anyAV H a a := .keep a (within_closed h)

theorem FRes.cl {H : Heap} {β : Nat → Bool} : ∀ (a : AV), a.froz = true → FRes H β anyAV a a := fun a h => .same a h (by cases a <;> first | rfl | cases h)
/-- A slice of ours, handed out for good. -/
theorem FRes.slice {H : Heap} {β : Nat → Bool} {id ver off T sz : Nat} {cs pre post es : List AV} (hβ : β id = true) (hH : H id = .cells ver T sz cs) (hcs : cs = pre ++ es.flatMap flat ++ post) (hoff : off = pre.length)
    (hsz : ∀ e ∈ es, (flat e).length = sz) (hfz : ∀ e ∈ es, ∀ x ∈ flat e, x.froz = true) : FRes H β anyAV (.ref id ver off es.length) (.sl sz es) := by
  have hlen : ∀ (l : List AV), (∀ e ∈ l, (flat e).length = sz) → (l.flatMap flat).length = l.length * sz := by
    intro l
    induction l with
    | nil => intro _; simp
    | cons e l ih =>
      intro h
      rw [List.flatMap_cons, List.length_append, ih fun x hx => h x (by simp [hx]), h e (by simp), List.length_cons, Nat.succ_mul, Nat.add_comm]
  refine .ref id ver off es.length T sz cs es hβ hH rfl ?_ (fun j e he => hsz e (List.mem_of_getElem? he)) fun k x y hx hy => ?_
  · rw [hcs]; simp only [List.length_append, hlen es hsz, hoff]; omega
  · rw [hcs, hoff] at hx
    have hk : k < (es.flatMap flat).length := (List.getElem?_eq_some_iff.1 hy).1
    rw [List.append_assoc, List.getElem?_append_right (by omega), Nat.add_sub_cancel_left, List.getElem?_append_left hk, hy] at hx
    cases hx
    obtain ⟨e, he, hye⟩ := List.mem_flatMap.1 (List.mem_of_getElem? hy)
    exact .cl _ (hfz e he _ hye)
theorem Res.slice {H : Heap} {L : Nat → Bool} {id ver T sz : Nat} {cs es : List AV} (hL : L id = false) (hH : H id = .cells ver T sz cs) (hcs : cs = es.flatMap flat)
    (hsz : ∀ e ∈ es, (flat e).length = sz) (hfz : ∀ e ∈ es, ∀ x ∈ flat e, x.froz = true) : Res L anyAV H (.ref id ver 0 es.length) (.sl sz es) :=
  .frz _ _ (.slice (pre := []) (post := []) (by simp [hL]) hH (by simp [hcs]) rfl hsz hfz)
theorem Res.tup2 {H : Heap} {L : Nat → Bool} {a a' b b' : AV} (ha : Res L anyAV H a a') (hb : Res L anyAV H b b') : Res L anyAV H (.tup [a, b]) (.tup [a', b']) :=
  .tup _ _ rfl fun i x y h1 h2 => by
    match i with
    | 0 => simp at h1 h2; subst h1 h2; exact ha
    | 1 => simp at h1 h2; subst h1 h2; exact hb
    | i + 2 => simp at h1
theorem Res.tup3 {H : Heap} {L : Nat → Bool} {a a' b b' c c' : AV} (ha : Res L anyAV H a a') (hb : Res L anyAV H b b') (hc : Res L anyAV H c c') : Res L anyAV H (.tup [a, b, c]) (.tup [a', b', c']) :=
  .tup _ _ rfl fun i x y h1 h2 => by
    match i with
    | 0 => simp at h1 h2; subst h1 h2; exact ha
    | 1 => simp at h1 h2; subst h1 h2; exact hb
    | 2 => simp at h1 h2; subst h1 h2; exact hc
    | i + 3 => simp at h1
theorem Res.agg3 {H : Heap} {L : Nat → Bool} {a a' b b' c c' : AV} (ha : Res L anyAV H a a') (hb : Res L anyAV H b b') (hc : Res L anyAV H c c') : Res L anyAV H (.agg [a, b, c]) (.agg [a', b', c']) :=
  .agg _ _ rfl fun i x y h1 h2 => by
    match i with
    | 0 => simp at h1 h2; subst h1 h2; exact ha
    | 1 => simp at h1 h2; subst h1 h2; exact hb
    | 2 => simp at h1 h2; subst h1 h2; exact hc
    | i + 3 => simp at h1

theorem joinH_one {id i : Nat} {H' H : Heap} : joinH (fun _ => id) [i] (fun _ => false) H' H = upd H id ((H' i).ren fun _ => id) := by
  funext j
  unfold joinH lookL upd
  by_cases h : id = j
  · subst h; simp
  · simp [h, Ne.symm h]
def HOne (b : Blk) : Heap := fun i => if i = 1000000 then b else .gone 0
@[simp, go_sem] theorem HOne_at {b : Blk} : HOne b 1000000 = b := rfl
/-- A call that is handed a pointer to one block, in which no reference stands. -/
theorem ACall.ptr1 {id v T sz off : Nat} {cs xs : List AV} {H : Heap} {K R : AV → Heap → Prop} (hH : H id = .cells v T sz cs) (hcs : closedL cs = true) (has : closedL xs = true)
    (h : ACall P g (.ptr 1000000 v off :: xs) (HOne (.cells v T sz cs)) R)
    (hK : ∀ r' H', R r' H' → ∃ v' T' sz' cs' r, H' 1000000 = .cells v' T' sz' cs' ∧ closedL cs' = true ∧ Res (fun i => i == 1000000) anyAV H' r' r ∧ r.closed = true ∧ K r (upd H id (.cells v' T' sz' cs'))) :
    ACall P g (.ptr id v off :: xs) H K := by
  refine ACall.lift h [1000000] (fun _ => id) (fun _ => false) (fun _ => false) anyAV (by simp) (by simp) ?_ ?_ ?_ (by simp) (by simp) (by simp) (.inl (by simp)) ?_ ?_
  · intro i hi
    simp only [List.mem_singleton] at hi; subst hi
    rw [hH, HOne_at, Blk.ren, renL_closed _ _ hcs]
  · intro i hi v' T' sz' cs' hc
    simp only [List.mem_singleton] at hi; subst hi
    rw [HOne_at] at hc; cases hc
    exact withinL_closed (fun _ => rfl) _ hcs
  · intro i v' T' sz' cs' hc
    unfold HOne at hc
    split at hc
    · rename_i e; simp [e]
    · cases hc
  · refine .cons _ _ _ _ ?_ (views_closed xs has)
    exact View.ren (ρ := fun _ => id) (.ptr 1000000 v off) rfl
  · intro r' H' hR
    obtain ⟨v', T', sz', cs', r, h1, h2, h3, h4, h5⟩ := hK r' H' hR
    refine ⟨r, ?_, ?_, ?_⟩
    · have : (fun x => List.contains [1000000] x) = fun i : Nat => i == 1000000 := by funext i; by_cases e : i = 1000000 <;> simp [e]
      rw [this]; exact h3
    · intro i hi v2 T2 sz2 cs2 hc
      simp only [List.mem_singleton] at hi; subst hi
      rw [h1] at hc; cases hc
      exact withinL_closed (fun _ => rfl) _ h2
    · rw [ren_closed _ r h4, joinH_one, h1, Blk.ren, renL_closed _ _ h2]
      exact h5
/-- A slice that is nil, as one of ours with nothing in it. -/
theorem ALoop.thaw {n t : Nat} (d T sz : Nat) {x : Code} {Q : Exit → Env → Heap → Prop} {env : Env} {H : Heap} (ht : env t = .nil)
    (h : ALoop P n x Q (upd env t (.ref d ((H d).ver + 1) 0 0)) (upd H d (.cells ((H d).ver + 1) T sz []))) : ALoop P n x Q env H := by
  intro B m N w a hS hA hn
  obtain ⟨hS', hC⟩ := hS.virtual d T sz
  have hv := hA.tmp t
  rw [ht] at hv
  have hA' : ARel (upd m d none) (upd H d (.cells ((H d).ver + 1) T sz [])) N w (upd env t (.ref d ((H d).ver + 1) 0 0)) a := by
    refine ⟨hA.defers, fun j => ?_⟩
    by_cases e : j = t
    · subst e
      rw [upd_same]
      have hv' : a.tmps.getD j undef = .slice none 0 0 := by
        generalize a.tmps.getD j undef = u at hv
        cases hv with
        | fz h => cases h; rfl
      rw [hv']
      exact .ref _ _ _ _ _ rfl (by simp [Blk.ver]) fun _ _ _ _ => .inl ⟨rfl, none, rfl⟩
    · rw [upd_ne _ _ e]
      exact (hA.ch hC).tmp j
  exact wp_mono (h B _ N w a hS' hA' hn) fun e a' w' ⟨m', H', N', env', h1, h2, h3, h4, h5⟩ => ⟨m', H', N', env', h1, h2, h3, h4, hC.trans h5⟩
theorem ALoop.thawCell {n v Tb szb : Nat} (b i d T sz : Nat) {cs : List AV} {x : Code} {Q : Exit → Env → Heap → Prop} {env : Env} {H : Heap} (hb : H b = .cells v Tb szb cs) (hi : cs[i]? = some .nil) (hd : b ≠ d)
    (h : ALoop P n x Q env (upd (upd H d (.cells ((H d).ver + 1) T sz [])) b (.cells v Tb szb (cs.set i (.ref d ((H d).ver + 1) 0 0))))) : ALoop P n x Q env H := by
  intro B m N w a hS hA hn
  obtain ⟨hS', hC⟩ := hS.virtual d T sz
  have hb' : (upd H d (.cells ((H d).ver + 1) T sz [])) b = .cells v Tb szb cs := by rw [upd_ne _ _ hd, hb]
  have hne : cs ≠ [] := by intro e; rw [e] at hi; simp at hi
  obtain ⟨bb, sh, hm⟩ := hS'.there hb' hne
  obtain ⟨_, _, c0, hc0, hl, hr⟩ := hS'.own b v Tb szb cs bb sh hb' hm
  have hrow := hS'.row hb' hm hc0 v sh (.inl ⟨rfl, rfl⟩) (cs.set i (.ref d ((H d).ver + 1) 0 0)) c0 rfl (by simpa using hl) fun j y u h1 h2 => by
    by_cases e : j = i
    · subst e
      have hlt : j < cs.length := (List.getElem?_eq_some_iff.1 hi).1
      rw [List.getElem?_set_self hlt] at h1
      cases h1
      have hv := hr j .nil u hi h2
      have hv' : u = .slice none 0 0 := by cases hv with | fz h => cases h; rfl
      rw [hv']
      exact .ref _ _ _ _ _ rfl (by simp [Blk.ver]) fun _ _ _ _ => .inl ⟨rfl, none, rfl⟩
    · rw [List.getElem?_set_ne (Ne.symm e)] at h1
      exact hr j y u h1 h2
  have hw : w.setRow bb c0 = w := by
    exact setRow_self w bb c0 Tb (0, 0) hc0
  obtain ⟨hS2, hC2⟩ := hrow
  rw [hw] at hS2 hC2
  exact wp_mono (h B _ N w a hS2 ((hA.ch hC).ch hC2) hn) fun e a' w' ⟨m', H', N', env', h1, h2, h3, h4, h5⟩ => ⟨m', H', N', env', h1, h2, h3, h4, (hC.trans hC2).trans h5⟩
/-- A call that only looks: what it is handed it sees frozen, and no slice comes back. -/
theorem ACall.peek {args args' : List AV} {H : Heap} {K R : AV → Heap → Prop} (h : ACall P g args' H0 R) (hv : Views H (fun _ => false) id (fun _ => true) args args')
    (hK : ∀ r H', R r H' → within (fun _ => false) (fun _ => false) r = true ∧ K r H) : ACall P g args H K := by
  refine ACall.lift h [] id (fun _ => true) (fun _ => false) (fun _ => false) (by simp) (by simp) (by simp) (by simp) (fun i v T sz cs h => by cases h) (by simp) (by simp) (by simp) (.inr (by simp)) hv ?_
  intro r' H' hR
  obtain ⟨h1, h2⟩ := hK r' H' hR
  refine ⟨r', .keep _ (by simpa using h1), by simp, ?_⟩
  rw [ren_closed id r' (within_mono (by simp) (by simp) r' h1)]
  exact h2
theorem View.cl {H : Heap} {L : Nat → Bool} {ρ : Nat → Nat} {β : Nat → Bool} {a : AV} (h : a.closed = true) : View H L ρ β a a := by
  have := View.ren (H := H) (L := L) (ρ := ρ) (β := β) a (within_closed h)
  rwa [ren_closed ρ a h] at this
theorem View.agg3 {H : Heap} {L : Nat → Bool} {ρ : Nat → Nat} {β : Nat → Bool} {a a' b b' c c' : AV} (ha : View H L ρ β a a') (hb : View H L ρ β b b') (hc : View H L ρ β c c') : View H L ρ β (.agg [a, b, c]) (.agg [a', b', c']) :=
  .agg _ _ rfl fun i x y h1 h2 => by
    match i with
    | 0 => simp at h1 h2; subst h1 h2; exact ha
    | 1 => simp at h1 h2; subst h1 h2; exact hb
    | 2 => simp at h1 h2; subst h1 h2; exact hc
    | i + 3 => simp at h1
theorem flat_map1 {α : Type} {f : α → AV} (h : ∀ x, flat (f x) = [f x]) (l : List α) : (l.map f).flatMap flat = l.map f := by
  induction l with
  | nil => rfl
  | cons x l ih => simp [h, ih]
theorem take_map {α : Type} {f : α → AV} {l : List α} : List.take l.length (l.map f) = l.map f := by rw [List.take_of_length_le (by simp)]
theorem take_flat {α : Type} {f : α → List AV} {k : Nat} (h : ∀ x, (f x).length = k) (l : List α) : List.take (l.length * k) (l.flatMap f) = l.flatMap f := by
  refine List.take_of_length_le ?_
  induction l with
  | nil => simp
  | cons x l ih => simp only [List.flatMap_cons, List.length_append, List.length_cons, h]; rw [Nat.succ_mul]; omega
theorem len_flat {α : Type} {f : α → List AV} {k : Nat} (h : ∀ x, (f x).length = k) (l : List α) : (l.flatMap f).length = l.length * k := by
  induction l with
  | nil => simp
  | cons x l ih => simp only [List.flatMap_cons, List.length_append, List.length_cons, h]; rw [Nat.succ_mul]; omega
end Go.Abs

/- The abstract machine, part S: blocks that come back from a call are taken over. -/
set_option linter.unusedVariables false
set_option linter.unusedSimpArgs false
namespace Go.Abs
variable {P : Program} {g : FuncId}

theorem St.adopt {B : Base} {m : Nat → Option (Nat × Nat)} {H : Heap} {N : Nat → Prop} {w : World} (h : St B m H N w) {s j v T sz : Nat} {cs : List AV} (hs : s < 1000000) (hj : 1000000 ≤ j) (hH : H s = .cells v T sz cs) :
    St B (upd m j (m s)) (upd (upd H s (.gone (v + 1))) j (.cells ((H j).ver + 1) T sz cs)) N w ∧
    Ch m H N w (upd m j (m s)) (upd (upd H s (.gone (v + 1))) j (.cells ((H j).ver + 1) T sz cs)) N w := by
  have hne : s ≠ j := by omega
  have hat : ∀ i, i ≠ j → i ≠ s → (upd (upd H s (.gone (v + 1))) j (.cells ((H j).ver + 1) T sz cs)) i = H i := fun i h1 h2 => by rw [upd_ne _ _ h1, upd_ne _ _ h2]
  have hats : (upd (upd H s (.gone (v + 1))) j (.cells ((H j).ver + 1) T sz cs)) s = .gone (v + 1) := by rw [upd_ne _ _ hne, upd_same]
  have hc : Ch m H N w (upd m j (m s)) (upd (upd H s (.gone (v + 1))) j (.cells ((H j).ver + 1) T sz cs)) N w := by
    refine ⟨fun a v hf => hf, fun id => ?_, fun id ver T' sz' cs' hl => ?_⟩
    · by_cases e : id = j
      · subst e; rw [upd_same]; simp [Blk.ver]
      · by_cases e2 : id = s
        · subst e2; rw [hats, hH]; simp [Blk.ver]
        · rw [hat id e e2]; exact Nat.le_refl _
    · by_cases e : id = j
      · subst e; rw [upd_same] at hl; injection hl with h1 h2 h3 h4; exact .inl (by omega)
      · by_cases e2 : id = s
        · subst e2; rw [hats] at hl; cases hl
        · rw [hat id e e2] at hl
          exact .inr ⟨⟨T', cs', hl⟩, upd_ne _ _ e, fun b sh _ c T1 z h => ⟨c, T1, z, h, rfl⟩⟩
  refine ⟨⟨h.keep, h.nlt, h.n0, h.n0lt, h.nfresh, ?_, ?_, ?_, ?_, ?_⟩, hc⟩
  · intro i v' T' sz' cs' b sh hi hHi hmi
    have e : i ≠ j := by omega
    by_cases e2 : i = s
    · subst e2; rw [hats] at hHi; cases hHi
    · rw [hat i e e2] at hHi
      rw [upd_ne _ _ e] at hmi
      exact h.fresh i v' T' sz' cs' b sh hi hHi hmi
  · intro i v' T' sz' cs' b sh hHi hmi
    by_cases e : i = j
    · subst e
      rw [upd_same] at hmi
      exact .inr (h.fresh s v T sz cs b sh hs hH hmi)
    · by_cases e2 : i = s
      · subst e2; rw [hats] at hHi; cases hHi
      · rw [hat i e e2] at hHi
        rw [upd_ne _ _ e] at hmi
        exact h.orig i v' T' sz' cs' b sh hHi hmi
  · intro i k b s1 s2 h1 h2 h3 h4
    obtain ⟨v3, T3, z3, c3, h3⟩ := h3
    obtain ⟨v4, T4, z4, c4, h4⟩ := h4
    by_cases ei : i = j
    · by_cases ek : k = j
      · rw [ei, ek]
      · by_cases ek2 : k = s
        · subst ek2; rw [hats] at h4; cases h4
        · rw [hat k ek ek2] at h4
          rw [upd_ne _ _ ek] at h2
          subst ei
          rw [upd_same] at h1
          exact absurd (h.inj s k b s1 s2 h1 h2 ⟨_, _, _, _, hH⟩ ⟨_, _, _, _, h4⟩) (Ne.symm ek2)
    · by_cases ei2 : i = s
      · subst ei2; rw [hats] at h3; cases h3
      · rw [hat i ei ei2] at h3
        rw [upd_ne _ _ ei] at h1
        by_cases ek : k = j
        · subst ek
          rw [upd_same] at h2
          exact absurd (h.inj i s b s1 s2 h1 h2 ⟨_, _, _, _, h3⟩ ⟨_, _, _, _, hH⟩) ei2
        · by_cases ek2 : k = s
          · subst ek2; rw [hats] at h4; cases h4
          · rw [hat k ek ek2] at h4
            rw [upd_ne _ _ ek] at h2
            exact h.inj i k b s1 s2 h1 h2 ⟨_, _, _, _, h3⟩ ⟨_, _, _, _, h4⟩
  · intro i ver T' sz' cs' b sh hHi hmi
    by_cases e : i = j
    · subst e
      rw [upd_same] at hHi hmi
      injection hHi with h1 h2 h3 h4
      subst h2 h3 h4
      obtain ⟨n1, n2, c, n3, n4, n5⟩ := h.own s v T sz cs b sh hH hmi
      exact ⟨n1, n2, c, n3, n4, fun j x u hx hu => (n5 j x u hx hu).ch hc⟩
    · by_cases e2 : i = s
      · subst e2; rw [hats] at hHi; cases hHi
      · rw [hat i e e2] at hHi
        rw [upd_ne _ _ e] at hmi
        obtain ⟨n1, n2, c, n3, n4, n5⟩ := h.own i ver T' sz' cs' b sh hHi hmi
        exact ⟨n1, n2, c, n3, n4, fun j x u hx hu => (n5 j x u hx hu).ch hc⟩
  · intro i ver T' sz' cs' hHi hmi
    by_cases e : i = j
    · subst e
      rw [upd_same] at hHi hmi
      injection hHi with h1 h2 h3 h4
      rw [← h4]
      exact h.virt s v T sz cs hH hmi
    · by_cases e2 : i = s
      · subst e2; rw [hats] at hHi; cases hHi
      · rw [hat i e e2] at hHi
        rw [upd_ne _ _ e] at hmi
        exact h.virt i ver T' sz' cs' hHi hmi

/-- The second value is the first, references to block 's' leading to block 'j'. -/
inductive Adopts (s v j v' : Nat) : AV → AV → Prop
  | ref (off len : Nat) : Adopts s v j v' (.ref s v off len) (.ref j v' off len)
  | ptr (off : Nat) : Adopts s v j v' (.ptr s v off) (.ptr j v' off)
  | same (a : AV) : Adopts s v j v' a a
  | agg (cs ds : List AV) : ds.length = cs.length → (∀ (i : Nat) (x y : AV), cs[i]? = some x → ds[i]? = some y → Adopts s v j v' x y) → Adopts s v j v' (.agg cs) (.agg ds)
  | tup (cs ds : List AV) : ds.length = cs.length → (∀ (i : Nat) (x y : AV), cs[i]? = some x → ds[i]? = some y → Adopts s v j v' x y) → Adopts s v j v' (.tup cs) (.tup ds)

theorem Adopts.rel {m m' : Nat → Option (Nat × Nat)} {H H' : Heap} {N : Nat → Prop} {w : World} {s v j T sz : Nat} {cs : List AV} (hH : H s = .cells v T sz cs) (hj : H' j = .cells ((H j).ver + 1) T sz cs) (hm : m' j = m s)
    (hc : Ch m H N w m' H' N w) {a a' : AV} (h : Adopts s v j ((H j).ver + 1) a a') : ∀ {u : Value}, Rel m H N w a u → Rel m' H' N w a' u := by
  induction h with
  | ref off len =>
    intro u hr
    cases hr with
    | fz h => cases h
    | ref _ _ _ _ _ h1 hv h =>
      refine .ref _ _ _ _ _ h1 (by rw [hj]; exact Nat.le_refl _) fun T' sz' cs' hl => ?_
      rw [hj] at hl; injection hl with e1 e2 e3 e4
      subst e2 e3 e4
      rw [hm]
      exact h T sz cs hH
  | ptr off =>
    intro u hr
    cases hr with
    | fz h => cases h
    | ptr _ _ _ _ h1 hv h =>
      refine .ptr _ _ _ _ h1 (by rw [hj]; exact Nat.le_refl _) fun T' sz' cs' hl b sh hb => ?_
      rw [hm] at hb
      exact h T sz cs hH b sh hb
  | same a => exact fun hr => hr.ch hc
  | agg cs ds hl _ ih =>
    intro u hr
    have go : ∀ (vs : Array Value), vs.size = cs.length → (∀ (i : Nat) (x : AV) (v : Value), cs[i]? = some x → vs[i]? = some v → Rel m H N w x v) → Rel m' H' N w (.agg ds) (.agg vs) := fun vs hn hr =>
      .agg _ _ (by omega) fun i y u h1 h2 => by
        have hi : i < cs.length := by have := (List.getElem?_eq_some_iff.1 h1).1; omega
        exact ih i _ y (List.getElem?_eq_getElem hi) h1 (hr i _ u (List.getElem?_eq_getElem hi) h2)
    cases hr with
    | fz h => cases h with | agg _ vs hn hr => exact go vs hn fun i x u h1 h2 => .fz (hr i x u h1 h2)
    | agg _ vs hn hr => exact go vs hn hr
  | tup cs ds hl _ ih =>
    intro u hr
    cases hr with
    | fz h => cases h
    | tup _ vs hn hr =>
      exact .tup _ _ (by omega) fun i y u h1 h2 => by
        have hi : i < cs.length := by have := (List.getElem?_eq_some_iff.1 h1).1; omega
        exact ih i _ y (List.getElem?_eq_getElem hi) h1 (hr i _ u (List.getElem?_eq_getElem hi) h2)

/-- A block that the callee made is given the name 'j'. -/
theorem ACall.adopt {args : List AV} {H : Heap} {R K : AV → Heap → Prop} (j : Nat) (hj : 1000000 ≤ j) (h : ACall P g args H R)
    (hK : ∀ r H', R r H' → ∃ s v T sz cs r', s < 1000000 ∧ H' s = .cells v T sz cs ∧ Adopts s v j ((H' j).ver + 1) r r' ∧ K r' (upd (upd H' s (.gone (v + 1))) j (.cells ((H' j).ver + 1) T sz cs))) : ACall P g args H K := by
  obtain ⟨he, h⟩ := h
  refine ⟨he, fun B m N w vs hS hvs hrel => (h B m N w vs hS hvs hrel).mono fun e w' => ?_⟩
  rintro ⟨u, m', H', N', x, rfl, hR, hS', hC, hx⟩
  obtain ⟨s, v, T, sz, cs, r', hs, hH, ha, hk⟩ := hK x H' hR
  obtain ⟨hS2, hC2⟩ := hS'.adopt hs hj hH
  exact ⟨u, _, _, N', r', rfl, hk, hS2, hC.trans hC2, ha.rel hH (by rw [upd_same]) (by rw [upd_same]) hC2 hx⟩

/-- What a block holds is forgotten. -/
theorem ACall.drop {args : List AV} {H : Heap} {K : AV → Heap → Prop} (d : Nat) (h : ACall P g args (upd H d (.gone ((H d).ver + 1))) K) : ACall P g args H K := by
  obtain ⟨he, h⟩ := h
  refine ⟨he, fun B m N w vs hS hvs hrel => ?_⟩
  obtain ⟨hS2, hC2⟩ := hS.drop d
  refine (h B m N w vs hS2 hvs fun i x v h1 h2 => (hrel i x v h1 h2).ch hC2).mono fun e w' => ?_
  rintro ⟨u, m', H', N', x, rfl, hR, hS', hC, hx⟩
  exact ⟨u, m', H', N', x, rfl, hR, hS', hC2.trans hC, hx⟩

def HTwo (b c : Blk) : Heap := fun i => if i = 1000000 then b else if i = 1000001 then c else .gone 0
@[simp, go_sem] theorem HTwo_a {b c : Blk} : HTwo b c 1000000 = b := rfl
@[simp, go_sem] theorem HTwo_b {b c : Blk} : HTwo b c 1000001 = c := rfl
def rhoTwo (a b : Nat) : Nat → Nat := fun i => if i = 1000000 then a else b
theorem joinH_two {a b : Nat} {H' H : Heap} (hne : b ≠ a) : joinH (rhoTwo a b) [1000000, 1000001] (fun _ => false) H' H = upd (upd H a ((H' 1000000).ren (rhoTwo a b))) b ((H' 1000001).ren (rhoTwo a b)) := by
  funext j
  unfold joinH lookL upd
  by_cases h : j = a
  · subst h; simp [rhoTwo, Ne.symm hne]
  · by_cases h2 : j = b
    · subst h2; simp [rhoTwo, Ne.symm hne]
    · simp [rhoTwo, h, h2, Ne.symm h, Ne.symm h2]
theorem joinH_give {id i k : Nat} {H' H : Heap} (hne : k ≠ id) : joinH (fun _ => id) [i] (fun j => j == k) H' H = upd (upd H k (.gone ((H k).ver + 1))) id ((H' i).ren fun _ => id) := by
  funext j
  unfold joinH lookL upd
  by_cases h : id = j
  · subst h; simp
  · by_cases h2 : j = k
    · subst h2; simp [h, Ne.symm h]
    · simp [h, h2, Ne.symm h]
/-- A call that is handed a pointer to one block, and a block that is given away. -/
theorem ACall.ptr1give {id v T sz off : Nat} {cs xs xs' : List AV} {H : Heap} {K R : AV → Heap → Prop} (k : Nat) (hk : k < 1000000) (hkid : k ≠ id) (hH : H id = .cells v T sz cs) (hcs : closedL cs = true) (hxs : Views H (fun i => i == 1000000) (fun _ => id) (fun j => j == k) xs xs')
    (h : ACall P g (.ptr 1000000 v off :: xs') (HOne (.cells v T sz cs)) R)
    (hK : ∀ r' H', R r' H' → ∃ v' T' sz' cs' r, H' 1000000 = .cells v' T' sz' cs' ∧ closedL cs' = true ∧ Res (fun i => i == 1000000) anyAV H' r' r ∧ r.closed = true ∧ K r (upd (upd H k (.gone ((H k).ver + 1))) id (.cells v' T' sz' cs'))) :
    ACall P g (.ptr id v off :: xs) H K := by
  have e : (fun x => List.contains [1000000] x) = fun i : Nat => i == 1000000 := by funext i; by_cases e : i = 1000000 <;> simp [e]
  refine ACall.lift h [1000000] (fun _ => id) (fun j => j == k) (fun j => j == k) anyAV (by simp) (by simp) ?_ ?_ ?_ (by simp; exact Ne.symm hkid) (by simp; omega) (by simp; exact Ne.symm hkid) (.inl (by simp)) ?_ ?_
  · intro i hi
    simp only [List.mem_singleton] at hi; subst hi
    rw [hH, HOne_at, Blk.ren, renL_closed _ _ hcs]
  · intro i hi v' T' sz' cs' hc
    simp only [List.mem_singleton] at hi; subst hi
    rw [HOne_at] at hc; cases hc
    exact withinL_closed (fun _ => rfl) _ hcs
  · intro i v' T' sz' cs' hc
    unfold HOne at hc
    split at hc
    · rename_i e; simp [e]
    · cases hc
  · refine .cons _ _ _ _ ?_ (by rw [e]; exact hxs)
    exact View.ren (ρ := fun _ => id) (.ptr 1000000 v off) rfl
  · intro r' H' hR
    obtain ⟨v', T', sz', cs', r, h1, h2, h3, h4, h5⟩ := hK r' H' hR
    refine ⟨r, by rw [e]; exact h3, ?_, ?_⟩
    · intro i hi v2 T2 sz2 cs2 hc
      simp only [List.mem_singleton] at hi; subst hi
      rw [h1] at hc; cases hc
      exact withinL_closed (fun _ => rfl) _ h2
    · rw [ren_closed _ r h4, joinH_give hkid, h1, Blk.ren, renL_closed _ _ h2]
      exact h5
/-- A call that is handed a pointer to one block, and hands back a slice that it made: that is ours from now on. -/
theorem ACall.ptr1own {id v T sz off : Nat} {cs xs : List AV} {H : Heap} {K R : AV → Heap → Prop} (d : Nat) {v0 : Nat} (hd : H d = .gone v0) (hH : H id = .cells v T sz cs) (hcs : closedL cs = true) (has : closedL xs = true)
    (h : ACall P g (.ptr 1000000 v off :: xs) (HTwo (.cells v T sz cs) (.gone v0)) R)
    (hK : ∀ r H', R r H' → ∃ v' T' sz' cs' s vs Ts szs css len, r = .ref s vs 0 len ∧ s < 1000000 ∧ H' 1000000 = .cells v' T' sz' cs' ∧ closedL cs' = true ∧ H' s = .cells vs Ts szs css ∧ closedL css = true ∧
      ∀ ver, K (.ref d ver 0 len) (upd (upd H id (.cells v' T' sz' cs')) d (.cells ver Ts szs css))) :
    ACall P g (.ptr id v off :: xs) H K := by
  have hne : d ≠ id := by rintro rfl; rw [hd] at hH; cases hH
  have h2 : ACall P g (.ptr 1000000 v off :: xs) (HTwo (.cells v T sz cs) (.gone v0)) (fun r H' => ∃ v' T' sz' cs' ver Ts szs css len, r = .ref 1000001 ver 0 len ∧ H' 1000000 = .cells v' T' sz' cs' ∧ closedL cs' = true ∧ H' 1000001 = .cells ver Ts szs css ∧ closedL css = true ∧
      K (.ref d ver 0 len) (upd (upd H id (.cells v' T' sz' cs')) d (.cells ver Ts szs css))) := by
    refine ACall.adopt 1000001 (by omega) h fun r H' hR => ?_
    obtain ⟨v', T', sz', cs', s, vs, Ts, szs, css, len, rfl, hs, h3, h4, h5, h6, h7⟩ := hK r H' hR
    refine ⟨s, vs, Ts, szs, css, .ref 1000001 ((H' 1000001).ver + 1) 0 len, hs, h5, .ref 0 len, v', T', sz', cs', _, Ts, szs, css, len, rfl, ?_, h4, by rw [upd_same], h6, h7 _⟩
    rw [upd_ne _ _ (by omega), upd_ne _ _ (by omega), h3]
  refine ACall.lift h2 [1000000, 1000001] (rhoTwo id d) (fun _ => false) (fun _ => false) anyAV (by simp) ?_ ?_ ?_ ?_ (by simp) (by simp) (by simp) (.inl (by simp)) ?_ ?_
  · intro i hi j hj hij
    simp only [List.mem_cons, List.not_mem_nil, or_false] at hi hj
    rcases hi with rfl | rfl <;> rcases hj with rfl | rfl <;> simp [rhoTwo] at hij <;> first | rfl | exact absurd hij hne | exact absurd hij.symm hne
  · intro i hi
    simp only [List.mem_cons, List.not_mem_nil, or_false] at hi
    rcases hi with rfl | rfl
    · rw [HTwo_a, Blk.ren, renL_closed _ _ hcs]; exact hH
    · rw [HTwo_b, Blk.ren]; exact hd
  · intro i hi v' T' sz' cs' hc
    simp only [List.mem_cons, List.not_mem_nil, or_false] at hi
    rcases hi with rfl | rfl
    · rw [HTwo_a] at hc; cases hc
      exact withinL_closed (fun _ => rfl) _ hcs
    · rw [HTwo_b] at hc; cases hc
  · intro i v' T' sz' cs' hc
    unfold HTwo at hc
    split at hc
    · rename_i e; simp [e]
    · split at hc <;> cases hc
  · refine .cons _ _ _ _ ?_ (views_closed xs has)
    exact View.ren (ρ := rhoTwo id d) (.ptr 1000000 v off) rfl
  · intro r' H' hR
    obtain ⟨v', T', sz', cs', ver, Ts, szs, css, len, rfl, h3, h4, h5, h6, h7⟩ := hR
    refine ⟨_, .keep _ rfl, ?_, ?_⟩
    · intro i hi v2 T2 sz2 cs2 hc
      simp only [List.mem_cons, List.not_mem_nil, or_false] at hi
      rcases hi with rfl | rfl
      · rw [h3] at hc; cases hc
        exact withinL_closed (fun _ => rfl) _ h4
      · rw [h5] at hc; cases hc
        exact withinL_closed (fun _ => rfl) _ h6
    · rw [joinH_two hne, h3, h5, Blk.ren, Blk.ren, renL_closed _ _ h4, renL_closed _ _ h6]
      exact h7

/-- A call that is handed frozen values, and one value that leads to one block of ours (a closure, say); the block stays as it is. -/
theorem ACall.with1 {id v T sz : Nat} {cs xs : List AV} {H : Heap} {K R : AV → Heap → Prop} (f : AV) (hf : within (fun i => i == 1000000) anyAV f = true) (hH : H id = .cells v T sz cs) (hcs : closedL cs = true) (hxs : closedL xs = true)
    (h : ACall P g (xs ++ [f]) (HOne (.cells v T sz cs)) R)
    (hK : ∀ r' H', R r' H' → H' 1000000 = .cells v T sz cs ∧ ∃ r, Res (fun i => i == 1000000) anyAV H' r' r ∧ r.closed = true ∧ K r H) :
    ACall P g (xs ++ [ren (fun _ => id) f]) H K := by
  have e : (fun x => List.contains [1000000] x) = fun i : Nat => i == 1000000 := by funext i; by_cases e : i = 1000000 <;> simp [e]
  refine ACall.lift h [1000000] (fun _ => id) (fun _ => false) (fun _ => false) anyAV (by simp) (by simp) ?_ ?_ ?_ (by simp) (by simp) (by simp) (.inl (by simp)) ?_ ?_
  · intro i hi
    simp only [List.mem_singleton] at hi; subst hi
    rw [hH, HOne_at, Blk.ren, renL_closed _ _ hcs]
  · intro i hi v' T' sz' cs' hc
    simp only [List.mem_singleton] at hi; subst hi
    rw [HOne_at] at hc; cases hc
    exact withinL_closed (fun _ => rfl) _ hcs
  · intro i v' T' sz' cs' hc
    unfold HOne at hc
    split at hc
    · rename_i e; simp [e]
    · cases hc
  · rw [e]
    clear h hK
    induction xs with
    | nil => exact .cons _ _ _ _ (View.ren (ρ := fun _ => id) f hf) .nil
    | cons a xs ih =>
      simp only [closedL, List.all_cons, Bool.and_eq_true] at hxs
      exact .cons _ _ _ _ (View.cl hxs.1) (ih hxs.2)
  · intro r' H' hR
    obtain ⟨h1, r, h3, h4, h5⟩ := hK r' H' hR
    refine ⟨r, by rw [e]; exact h3, ?_, ?_⟩
    · intro i hi v2 T2 sz2 cs2 hc
      simp only [List.mem_singleton] at hi; subst hi
      rw [h1] at hc; cases hc
      exact withinL_closed (fun _ => rfl) _ hcs
    · rw [ren_closed _ r h4, joinH_one, h1, Blk.ren, renL_closed _ _ hcs, ← hH, upd_self]
      exact h5
end Go.Abs

/- The abstract machine, part T: calls that are handed blocks, by name. -/
set_option linter.unusedVariables false
set_option linter.unusedSimpArgs false
namespace Go.Abs
variable {P : Program} {g : FuncId}

/-- The callee's names for the blocks that it is handed: 1000000 and on. -/
def inL (n : Nat) : Nat → Bool := fun i => Nat.ble 1000000 i && Nat.blt i (1000000 + n)
theorem inL_eq (n : Nat) : (fun x => (List.range' 1000000 n).contains x) = inL n := by
  funext i
  rw [Bool.eq_iff_iff]
  simp only [inL, List.contains_eq_mem, List.mem_range'_1, Bool.and_eq_true, decide_eq_true_eq, Nat.ble_eq, Nat.blt_eq]
theorem inL_iff {n i : Nat} : inL n i = true ↔ 1000000 ≤ i ∧ i < 1000000 + n := by simp [inL, Nat.blt_eq]
def rhoL (ids : List Nat) : Nat → Nat := fun i => (ids[i - 1000000]?).getD 0
@[go_sem] theorem rhoL_0 {a : Nat} {l : List Nat} : rhoL (a :: l) 1000000 = a := rfl
@[go_sem] theorem rhoL_1 {a b : Nat} {l : List Nat} : rhoL (a :: b :: l) 1000001 = b := rfl
@[go_sem] theorem rhoL_2 {a b c : Nat} {l : List Nat} : rhoL (a :: b :: c :: l) 1000002 = c := rfl
@[go_sem] theorem rhoL_3 {a b c d : Nat} {l : List Nat} : rhoL (a :: b :: c :: d :: l) 1000003 = d := rfl
@[go_sem] theorem rhoL_4 {a b c d e : Nat} {l : List Nat} : rhoL (a :: b :: c :: d :: e :: l) 1000004 = e := rfl
/-- The callee's heap. -/
def hp (bs : List Blk) : Heap := fun i => if Nat.blt i 1000000 then .gone 0 else (bs[i - 1000000]?).getD (.gone 0)
@[go_sem] theorem hp_0 {a : Blk} {l : List Blk} : hp (a :: l) 1000000 = a := rfl
@[go_sem] theorem hp_1 {a b : Blk} {l : List Blk} : hp (a :: b :: l) 1000001 = b := rfl
@[go_sem] theorem hp_2 {a b c : Blk} {l : List Blk} : hp (a :: b :: c :: l) 1000002 = c := rfl
@[go_sem] theorem hp_3 {a b c d : Blk} {l : List Blk} : hp (a :: b :: c :: d :: l) 1000003 = d := rfl
@[go_sem] theorem hp_4 {a b c d e : Blk} {l : List Blk} : hp (a :: b :: c :: d :: e :: l) 1000004 = e := rfl
theorem hp_low {bs : List Blk} {i : Nat} (h : Nat.blt i 1000000 = true) : hp bs i = .gone 0 := by simp [hp, h]
theorem hp_at {bs : List Blk} {k : Nat} : hp bs (1000000 + k) = (bs[k]?).getD (.gone 0) := by
  unfold hp
  rw [if_neg (by simp [Nat.blt_eq])]
  rw [Nat.add_sub_cancel_left]
/-- Blocks, by place, in a heap. -/
def At (ρ : Nat → Nat) (H : Heap) : List Nat → List Blk → Prop
  | [], [] => True
  | id :: ids, b :: bs => H id = b.ren ρ ∧ At ρ H ids bs
  | _, _ => False
def Back (H : Heap) : Nat → List Blk → Prop
  | _, [] => True
  | k, b :: bs => H k = b ∧ Back H (k + 1) bs
def lays (ρ : Nat → Nat) : List Nat → List Blk → Heap → Heap
  | id :: ids, b :: bs, H => lays ρ ids bs (upd H id (b.ren ρ))
  | _, _, H => H
def drops (gv : List Nat) (H : Heap) : Heap := fun id => if gv.contains id then .gone ((H id).ver + 1) else H id
theorem drops_nil {H : Heap} : drops [] H = H := by funext i; simp [drops]
def Blk.inB (n : Nat) (q : AV → Bool) : Blk → Bool
  | .gone _ => true
  | .cells _ _ _ cs => withinL (inL n) q cs
@[go_sem] theorem inB_g {n : Nat} {q : AV → Bool} {v : Nat} : (Blk.gone v).inB n q = true := rfl
@[go_sem] theorem inB_c {n : Nat} {q : AV → Bool} {v T sz : Nat} {cs : List AV} : (Blk.cells v T sz cs).inB n q = withinL (inL n) q cs := rfl

theorem at_get {ρ : Nat → Nat} {H : Heap} : ∀ {ids : List Nat} {bs : List Blk}, At ρ H ids bs → bs.length = ids.length ∧ ∀ (k id : Nat) (b : Blk), ids[k]? = some id → bs[k]? = some b → H id = b.ren ρ
  | [], [], _ => ⟨rfl, by simp⟩
  | id :: ids, b :: bs, h => by
    obtain ⟨h1, h2⟩ := at_get h.2
    refine ⟨by simp [h1], fun k i c hi hc => ?_⟩
    cases k with
    | zero => simp at hi hc; subst hi hc; exact h.1
    | succ k => simp at hi hc; exact h2 k i c hi hc
  | [], _ :: _, h => h.elim
  | _ :: _, [], h => h.elim
theorem back_get {H : Heap} : ∀ {bs : List Blk} {j : Nat}, Back H j bs → ∀ (k : Nat) (b : Blk), bs[k]? = some b → H (j + k) = b
  | [], _, _, k, b, h => by simp at h
  | a :: bs, j, h, 0, b, hb => by simp at hb; subst hb; exact h.1
  | a :: bs, j, h, k + 1, b, hb => by
    have := back_get h.2 k b (by simpa using hb)
    rwa [Nat.add_assoc, Nat.add_comm 1 k] at this
theorem lays_ne {ρ : Nat → Nat} : ∀ {ids : List Nat} {bs : List Blk} {H : Heap} {i : Nat}, i ∉ ids → lays ρ ids bs H i = H i
  | [], _, H, i, _ => rfl
  | _ :: _, [], H, i, _ => rfl
  | id :: ids, b :: bs, H, i, h => by
    simp only [List.mem_cons, not_or] at h
    simp only [lays]
    rw [lays_ne h.2, upd_ne _ _ h.1]
theorem lays_at {ρ : Nat → Nat} : ∀ {ids : List Nat} {bs : List Blk} {H : Heap} (k id : Nat) (b : Blk), ids.Nodup → ids[k]? = some id → bs[k]? = some b → lays ρ ids bs H id = b.ren ρ
  | [], _, H, k, id, b, _, h, _ => by simp at h
  | _ :: _, [], H, k, id, b, _, _, h => by simp at h
  | i :: ids, c :: bs, H, 0, id, b, hn, h1, h2 => by
    simp at h1 h2; subst h1 h2
    simp only [List.nodup_cons] at hn
    simp only [lays]
    rw [lays_ne hn.1, upd_same]
  | i :: ids, c :: bs, H, k + 1, id, b, hn, h1, h2 => by
    simp only [List.nodup_cons] at hn
    simp only [lays]
    exact lays_at k id b hn.2 (by simpa using h1) (by simpa using h2)

/-- A call that is handed blocks 'ids' (the callee calls them 1000000, 1000001, ..), and may look at (or is given) others. -/
theorem ACall.handG {args args' : List AV} {H : Heap} {K R : AV → Heap → Prop} (q : AV → Bool) (β : Nat → Bool) (gv ids : List Nat) (bs : List Blk) (hnd : ids.Nodup) (hH : At (rhoL ids) H ids bs)
    (hin : bs.all (Blk.inB ids.length anyAV) = true) (hβ : ids.all (fun i => !β i) = true) (hgv : gv.all (fun j => Nat.blt j 1000000 && !ids.contains j) = true) (hq : (∀ j, β j = true → gv.contains j = true) ∨ ∀ a, q a = false)
    (hargs : Views H (inL ids.length) (rhoL ids) β args args')
    (h : ACall P g args' (hp bs) R)
    (hK : ∀ r' H', R r' H' → ∃ r bs', Back H' 1000000 bs' ∧ bs'.length = ids.length ∧ bs'.all (Blk.inB ids.length q) = true ∧ Res (inL ids.length) q H' r' r ∧ K (ren (rhoL ids) r) (lays (rhoL ids) ids bs' (drops gv H))) : ACall P g args H K := by
  obtain ⟨hlen, hget⟩ := at_get hH
  have hrho : ∀ k (hk : k < ids.length), rhoL ids (1000000 + k) = ids[k] := fun k hk => by
    unfold rhoL
    rw [Nat.add_sub_cancel_left, List.getElem?_eq_getElem hk, Option.getD_some]
  have hmem : ∀ i, i ∈ List.range' 1000000 ids.length → ∃ k, ∃ hk : k < ids.length, i = 1000000 + k ∧ rhoL ids i = ids[k] := fun i hi => by
    rw [List.mem_range'_1] at hi
    refine ⟨i - 1000000, by omega, by omega, ?_⟩
    have e : 1000000 + (i - 1000000) = i := by omega
    have h2 := hrho (i - 1000000) (by omega)
    rw [e] at h2; exact h2
  refine ACall.lift h (List.range' 1000000 ids.length) (rhoL ids) β (fun j => gv.contains j) q ?_ ?_ ?_ ?_ ?_ ?_ ?_ ?_ hq (by rw [inL_eq]; exact hargs) ?_
  · intro i hi; rw [List.mem_range'_1] at hi; exact hi.1
  · intro i hi j hj hij
    obtain ⟨k, hk, e1, e2⟩ := hmem i hi
    obtain ⟨l, hl, e3, e4⟩ := hmem j hj
    rw [e2, e4] at hij
    have := (List.getElem_inj hnd).1 hij
    omega
  · intro i hi
    obtain ⟨k, hk, e1, e2⟩ := hmem i hi
    rw [e2]
    have hb : bs[k]? = some (bs[k]'(by omega)) := List.getElem?_eq_getElem _
    rw [e1, hp_at, hb, Option.getD_some]
    exact hget k _ _ (List.getElem?_eq_getElem hk) hb
  · intro i hi v T sz cs hc
    obtain ⟨k, hk, e1, e2⟩ := hmem i hi
    have hb : bs[k]? = some (bs[k]'(by omega)) := List.getElem?_eq_getElem _
    rw [e1, hp_at, hb, Option.getD_some] at hc
    have := List.all_eq_true.1 hin _ (List.mem_of_getElem? hb)
    rw [hc, inB_c] at this
    rw [inL_eq]; exact this
  · intro i v T sz cs hc
    unfold hp at hc
    split at hc
    · cases hc
    · rename_i hlt
      have hge : 1000000 ≤ i := by simpa [Nat.blt_eq] using hlt
      cases hb : bs[i - 1000000]? with
      | none => rw [hb] at hc; cases hc
      | some b =>
        have := (List.getElem?_eq_some_iff.1 hb).1
        rw [List.mem_range'_1]; omega
  · intro i hi
    obtain ⟨k, hk, e1, e2⟩ := hmem i hi
    have := List.all_eq_true.1 hβ _ (List.getElem_mem hk)
    rw [e2]; simpa using this
  · intro j hj
    have := List.all_eq_true.1 hgv j (by simpa using hj)
    simp only [Bool.and_eq_true, Nat.blt_eq] at this
    exact this.1
  · intro i hi
    obtain ⟨k, hk, e1, e2⟩ := hmem i hi
    rw [e2]
    rw [Bool.eq_false_iff]
    intro hc
    have := List.all_eq_true.1 hgv ids[k] (by simpa using hc)
    simp at this
  · intro r' H' hR
    obtain ⟨r, bs', h1, h2, h3, h4, h5⟩ := hK r' H' hR
    refine ⟨r, by rw [inL_eq]; exact h4, ?_, ?_⟩
    · intro i hi v T sz cs hc
      obtain ⟨k, hk, e1, e2⟩ := hmem i hi
      have hb : bs'[k]? = some (bs'[k]'(by omega)) := List.getElem?_eq_getElem _
      rw [e1, back_get h1 k _ hb] at hc
      have := List.all_eq_true.1 h3 _ (List.mem_of_getElem? hb)
      rw [hc, inB_c] at this
      rw [inL_eq]; exact this
    · have e : joinH (rhoL ids) (List.range' 1000000 ids.length) (fun j => gv.contains j) H' H = lays (rhoL ids) ids bs' (drops gv H) := by
        funext id
        unfold joinH
        by_cases hid : id ∈ ids
        · obtain ⟨k, hk, rfl⟩ := List.mem_iff_getElem.1 hid
          have hlook : lookL (rhoL ids) (List.range' 1000000 ids.length) ids[k] = some (1000000 + k) := by
            unfold lookL
            cases hf : List.find? (fun i => rhoL ids i == ids[k]) (List.range' 1000000 ids.length) with
            | none =>
              rw [List.find?_eq_none] at hf
              exact absurd (by simpa using hrho k hk) (hf (1000000 + k) (by rw [List.mem_range'_1]; omega))
            | some i =>
              have h6 := List.find?_some hf
              have h7 := List.mem_of_find?_eq_some hf
              obtain ⟨l, hl, e1, e2⟩ := hmem i h7
              rw [beq_iff_eq, e2] at h6
              have := (List.getElem_inj hnd).1 h6
              rw [e1, this]
          rw [hlook]
          have hb : bs'[k]? = some (bs'[k]'(by omega)) := List.getElem?_eq_getElem _
          rw [lays_at k _ _ hnd (List.getElem?_eq_getElem hk) hb]
          simp only []
          rw [back_get h1 k _ hb]
        · have hlook : lookL (rhoL ids) (List.range' 1000000 ids.length) id = none := by
            unfold lookL
            rw [List.find?_eq_none]
            intro i hi h6
            obtain ⟨l, hl, e1, e2⟩ := hmem i hi
            rw [beq_iff_eq, e2] at h6
            exact hid (h6 ▸ List.getElem_mem hl)
          rw [hlook, lays_ne hid]
          rfl
      rw [e]; exact h5

/-- Blocks are handed over. -/
theorem ACall.hand {args args' : List AV} {H : Heap} {K R : AV → Heap → Prop} (ids : List Nat) (bs : List Blk) (hnd : ids.Nodup) (hH : At (rhoL ids) H ids bs)
    (hin : bs.all (Blk.inB ids.length anyAV) = true) (hargs : args'.map (ren (rhoL ids)) = args) (hain : withinL (inL ids.length) anyAV args' = true)
    (h : ACall P g args' (hp bs) R)
    (hK : ∀ r' H', R r' H' → ∃ r bs', Back H' 1000000 bs' ∧ bs'.length = ids.length ∧ bs'.all (Blk.inB ids.length anyAV) = true ∧ Res (inL ids.length) anyAV H' r' r ∧ K (ren (rhoL ids) r) (lays (rhoL ids) ids bs' H)) : ACall P g args H K := by
  refine ACall.handG anyAV (fun _ => false) [] ids bs hnd hH hin (by simp) (by simp) (.inl (by simp)) ?_ h (by simpa only [drops_nil] using hK)
  subst hargs
  clear h hK
  induction args' with
  | nil => exact .nil
  | cons a l ih =>
    simp only [withinL, Bool.and_eq_true] at hain
    exact .cons _ _ _ _ (.ren a hain.1) (ih hain.2)
/-- Blocks are handed over, others are given away to be read from now on. -/
theorem ACall.handV {args args' : List AV} {H : Heap} {K R : AV → Heap → Prop} (gv ids : List Nat) (bs : List Blk) (hnd : ids.Nodup) (hH : At (rhoL ids) H ids bs)
    (hin : bs.all (Blk.inB ids.length anyAV) = true) (hgv : gv.all (fun j => Nat.blt j 1000000 && !ids.contains j) = true) (hargs : Views H (inL ids.length) (rhoL ids) (fun j => gv.contains j) args args')
    (h : ACall P g args' (hp bs) R)
    (hK : ∀ r' H', R r' H' → ∃ r bs', Back H' 1000000 bs' ∧ bs'.length = ids.length ∧ bs'.all (Blk.inB ids.length anyAV) = true ∧ Res (inL ids.length) anyAV H' r' r ∧ K (ren (rhoL ids) r) (lays (rhoL ids) ids bs' (drops gv H))) : ACall P g args H K := by
  refine ACall.handG anyAV (fun j => gv.contains j) gv ids bs hnd hH hin ?_ hgv (.inl (by simp)) hargs h hK
  rw [List.all_eq_true]
  intro i hi
  simp only [Bool.not_eq_true']
  rw [Bool.eq_false_iff]
  intro hc
  have := List.all_eq_true.1 hgv i (by simpa using hc)
  simp at this
  exact this.2 hi
/-- Blocks are handed over, others are looked at while the call runs; no frozen slice comes back. -/
theorem ACall.handL {args args' : List AV} {H : Heap} {K R : AV → Heap → Prop} (ids : List Nat) (bs : List Blk) (hnd : ids.Nodup) (hH : At (rhoL ids) H ids bs)
    (hin : bs.all (Blk.inB ids.length anyAV) = true) (hargs : Views H (inL ids.length) (rhoL ids) (fun j => !ids.contains j) args args')
    (h : ACall P g args' (hp bs) R)
    (hK : ∀ r' H', R r' H' → ∃ bs', Back H' 1000000 bs' ∧ bs'.length = ids.length ∧ bs'.all (Blk.inB ids.length fun _ => false) = true ∧ within (inL ids.length) (fun _ => false) r' = true ∧ K (ren (rhoL ids) r') (lays (rhoL ids) ids bs' H)) : ACall P g args H K := by
  refine ACall.handG (fun _ => false) (fun j => !ids.contains j) [] ids bs hnd hH hin ?_ (by simp) (.inr (by simp)) hargs h fun r' H' hR => ?_
  · rw [List.all_eq_true]; intro i hi; simp [hi]
  · obtain ⟨bs', h1, h2, h3, h4, h5⟩ := hK r' H' hR
    exact ⟨r', bs', h1, h2, h3, .keep _ h4, by simpa only [drops_nil] using h5⟩
end Go.Abs
namespace Go.Abs
variable {P : Program} {g : FuncId}
/-- The second value is the first, nil having become a slice of block 'j', of which nothing is there. -/
inductive Virts (j v : Nat) : AV → AV → Prop
  | nil : Virts j v .nil (.ref j v 0 0)
  | same (a : AV) : Virts j v a a
  | agg (cs ds : List AV) : ds.length = cs.length → (∀ (i : Nat) (x y : AV), cs[i]? = some x → ds[i]? = some y → Virts j v x y) → Virts j v (.agg cs) (.agg ds)
  | tup (cs ds : List AV) : ds.length = cs.length → (∀ (i : Nat) (x y : AV), cs[i]? = some x → ds[i]? = some y → Virts j v x y) → Virts j v (.tup cs) (.tup ds)
theorem Virts.rel {m m' : Nat → Option (Nat × Nat)} {H H' : Heap} {N : Nat → Prop} {w : World} {v j T sz : Nat} (hj : H' j = .cells v T sz [])
    (hc : Ch m H N w m' H' N w) {a a' : AV} (h : Virts j v a a') : ∀ {u : Value}, Rel m H N w a u → Rel m' H' N w a' u := by
  induction h with
  | nil =>
    intro u hr
    have hv : u = .slice none 0 0 := by cases hr with | fz h => cases h; rfl
    rw [hv]
    exact .ref _ _ _ _ _ rfl (by rw [hj]; exact Nat.le_refl _) fun _ _ _ _ => .inl ⟨rfl, none, rfl⟩
  | same a => exact fun hr => hr.ch hc
  | agg cs ds hl _ ih =>
    intro u hr
    have go : ∀ (vs : Array Value), vs.size = cs.length → (∀ (i : Nat) (x : AV) (v : Value), cs[i]? = some x → vs[i]? = some v → Rel m H N w x v) → Rel m' H' N w (.agg ds) (.agg vs) := fun vs hn hr =>
      .agg _ _ (by omega) fun i y u h1 h2 => by
        have hi : i < cs.length := by have := (List.getElem?_eq_some_iff.1 h1).1; omega
        exact ih i _ y (List.getElem?_eq_getElem hi) h1 (hr i _ u (List.getElem?_eq_getElem hi) h2)
    cases hr with
    | fz h => cases h with | agg _ vs hn hr => exact go vs hn fun i x u h1 h2 => .fz (hr i x u h1 h2)
    | agg _ vs hn hr => exact go vs hn hr
  | tup cs ds hl _ ih =>
    intro u hr
    cases hr with
    | fz h => cases h
    | tup _ vs hn hr =>
      exact .tup _ _ (by omega) fun i y u h1 h2 => by
        have hi : i < cs.length := by have := (List.getElem?_eq_some_iff.1 h1).1; omega
        exact ih i _ y (List.getElem?_eq_getElem hi) h1 (hr i _ u (List.getElem?_eq_getElem hi) h2)
theorem ACall.virt {args : List AV} {H : Heap} {R K : AV → Heap → Prop} (j : Nat) (h : ACall P g args H R)
    (hK : ∀ r H', R r H' → ∃ T sz r', Virts j ((H' j).ver + 1) r r' ∧ K r' (upd H' j (.cells ((H' j).ver + 1) T sz []))) : ACall P g args H K := by
  obtain ⟨he, h⟩ := h
  refine ⟨he, fun B m N w vs hS hvs hrel => (h B m N w vs hS hvs hrel).mono fun e w' => ?_⟩
  rintro ⟨u, m', H', N', x, rfl, hR, hS', hC, hx⟩
  obtain ⟨T, sz, r', ha, hk⟩ := hK x H' hR
  obtain ⟨hS2, hC2⟩ := hS'.virtual j T sz
  exact ⟨u, _, _, N', r', rfl, hk, hS2, hC.trans hC2, ha.rel (by rw [upd_same]) hC2 hx⟩
/-- What is handed back, a slice that the callee made, or nil, becomes block 'j'. -/
theorem ACall.own {args : List AV} {H : Heap} {R K : AV → Heap → Prop} (j : Nat) (hj : 1000000 ≤ j) (h : ACall P g args H R)
    (hK : ∀ r H', R r H' → (∃ s v T sz cs r', s < 1000000 ∧ H' s = .cells v T sz cs ∧ Adopts s v j ((H' j).ver + 1) r r' ∧ K r' (upd (upd H' s (.gone (v + 1))) j (.cells ((H' j).ver + 1) T sz cs))) ∨
      (∃ T sz r', Virts j ((H' j).ver + 1) r r' ∧ K r' (upd H' j (.cells ((H' j).ver + 1) T sz []))) ∨ K r H') : ACall P g args H K := by
  obtain ⟨he, h⟩ := h
  refine ⟨he, fun B m N w vs hS hvs hrel => (h B m N w vs hS hvs hrel).mono fun e w' => ?_⟩
  rintro ⟨u, m', H', N', x, rfl, hR, hS', hC, hx⟩
  rcases hK x H' hR with ⟨s, v, T, sz, cs, r', hs, hH, ha, hk⟩ | ⟨T, sz, r', ha, hk⟩ | hk
  · obtain ⟨hS2, hC2⟩ := hS'.adopt hs hj hH
    exact ⟨u, _, _, N', r', rfl, hk, hS2, hC.trans hC2, ha.rel hH (by rw [upd_same]) (by rw [upd_same]) hC2 hx⟩
  · obtain ⟨hS2, hC2⟩ := hS'.virtual j T sz
    exact ⟨u, _, _, N', r', rfl, hk, hS2, hC.trans hC2, ha.rel (by rw [upd_same]) hC2 hx⟩
  · exact ⟨u, m', H', N', x, rfl, hk, hS', hC, hx⟩
theorem ACall.mono {args : List AV} {H : Heap} {R K : AV → Heap → Prop} (h : ACall P g args H R) (hK : ∀ r H', R r H' → K r H') : ACall P g args H K := by
  obtain ⟨he, h⟩ := h
  refine ⟨he, fun B m N w vs hS hvs hrel => (h B m N w vs hS hvs hrel).mono fun e w' => ?_⟩
  rintro ⟨u, m', H', N', x, rfl, hR, hS', hC, hx⟩
  exact ⟨u, m', H', N', x, rfl, hK _ _ hR, hS', hC, hx⟩
/-- A call with frozen arguments that hands back one slice that it made: ours from now on, as 'd'. -/
theorem ACall.own1 {args : List AV} {H : Heap} {K : AV → Heap → Prop} (d : Nat) {v0 : Nat} (hd : H d = .gone v0) (hc : closedL args = true) {T sz len : Nat} {cs : List AV} (hcs : closedL cs = true)
    (h : ACall P g args (hp [.gone v0]) fun r H' => ∃ ver, r = .ref 1000000 ver 0 len ∧ H' 1000000 = .cells ver T sz cs)
    (hK : ∀ ver, K (.ref d ver 0 len) (upd H d (.cells ver T sz cs))) : ACall P g args H K := by
  refine ACall.hand [d] [.gone v0] (by simp) ⟨by rw [hd]; rfl, trivial⟩ (by simp [Blk.inB]) ?_ (withinL_closed (fun _ => rfl) _ hc) h ?_
  · rw [← renL_map, renL_closed _ _ hc]
  · rintro r' H' ⟨ver, rfl, h1⟩
    refine ⟨.ref 1000000 ver 0 len, [.cells ver T sz cs], ⟨h1, trivial⟩, rfl, ?_, .keep _ rfl, ?_⟩
    · simp only [List.all_cons, List.all_nil, Bool.and_true, inB_c]; exact withinL_closed (fun _ => rfl) _ hcs
    · simp only [lays, Blk.ren, renL_closed _ _ hcs]
      exact hK ver
end Go.Abs
namespace Go.Abs
theorem withinL_cl {L : Nat → Bool} {cs : List AV} (h : closedL cs = true) : withinL L anyAV cs = true := withinL_closed (fun _ => rfl) _ h
theorem inB_cl {n v T sz : Nat} {cs : List AV} (h : closedL cs = true) : (Blk.cells v T sz cs).inB n anyAV = true := withinL_cl h
theorem sc_map {α : Type} {f : α → AV} (h : ∀ x, (f x).scalar = true) (l : List α) : (l.map f).all AV.scalar = true := by simp [List.all_map, h]
theorem sc_flat {α : Type} {f : α → List AV} (h : ∀ x, (f x).all AV.scalar = true) (l : List α) : (l.flatMap f).all AV.scalar = true := by
  induction l with
  | nil => rfl
  | cons a l ih => rw [List.flatMap_cons, List.all_append, h a, ih]; rfl
theorem cl_flat {α : Type} {f : α → List AV} (h : ∀ x, closedL (f x) = true) (l : List α) : closedL (l.flatMap f) = true := by
  induction l with
  | nil => rfl
  | cons a l ih => rw [List.flatMap_cons, cll_app, h a, ih]; rfl
end Go.Abs
namespace Go.Abs
theorem Res.map1 {α : Type} {f : α → AV} (h1 : ∀ x, flat (f x) = [f x]) (h2 : ∀ x, (f x).froz = true) {L : Nat → Bool} {H : Heap} {id ver T n : Nat} {l : List α} (hn : n = l.length) (hL : L id = false) (h : H id = .cells ver T 1 (l.map f)) : Res L anyAV H (.ref id ver 0 n) (.sl 1 (l.map f)) := by
  subst hn
  have := Res.slice (L := L) (H := H) (id := id) (ver := ver) (T := T) (sz := 1) (cs := l.map f) (es := l.map f) hL h (flat_map1 h1 l).symm (fun e he => by obtain ⟨x, _, rfl⟩ := List.mem_map.1 he; rw [h1]; rfl) (fun e he x hx => by obtain ⟨y, _, rfl⟩ := List.mem_map.1 he; rw [h1] at hx; rw [List.mem_singleton.1 hx]; exact h2 y)
  simpa using this
theorem FRes.map1 {α : Type} {f : α → AV} (h1 : ∀ x, flat (f x) = [f x]) (h2 : ∀ x, (f x).froz = true) {H : Heap} {β : Nat → Bool} {id ver T n : Nat} {l : List α} (hn : n = l.length) (hβ : β id = true) (h : H id = .cells ver T 1 (l.map f)) : FRes H β anyAV (.ref id ver 0 n) (.sl 1 (l.map f)) := by
  subst hn
  have := FRes.slice (H := H) (β := β) (id := id) (ver := ver) (T := T) (sz := 1) (pre := []) (post := []) (off := 0) (cs := l.map f) (es := l.map f) hβ h (by simp [flat_map1 h1]) rfl (fun e he => by obtain ⟨x, _, rfl⟩ := List.mem_map.1 he; rw [h1]; rfl) (fun e he x hx => by obtain ⟨y, _, rfl⟩ := List.mem_map.1 he; rw [h1] at hx; rw [List.mem_singleton.1 hx]; exact h2 y)
  simpa using this
end Go.Abs
namespace Go.Abs
theorem hp_nil : hp [] = H0 := by funext i; unfold hp H0; split <;> simp
theorem within_plainL {L : Nat → Bool} {q : AV → Bool} : ∀ (l : List AV), (∀ x ∈ l, x.plain = true) → withinL L q l = true
  | [], _ => rfl
  | a :: l, h => by
    simp only [withinL, Bool.and_eq_true]
    refine ⟨?_, within_plainL l fun x hx => h x (by simp [hx])⟩
    have := h a (by simp)
    cases a <;> first | rfl | cases this
end Go.Abs
namespace Go.Abs
theorem within_plainM {α : Type} {f : α → AV} (h : ∀ x, (f x).plain = true) {L : Nat → Bool} {q : AV → Bool} (l : List α) : withinL L q (l.map f) = true :=
  within_plainL _ fun x hx => by obtain ⟨y, _, rfl⟩ := List.mem_map.1 hx; exact h y
end Go.Abs
