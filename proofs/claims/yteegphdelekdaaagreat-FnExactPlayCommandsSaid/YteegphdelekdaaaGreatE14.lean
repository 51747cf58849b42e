/- Texts of ours, joined: YteegphdelekdaaaGreatAbsZ YteegphdelekdaaaGreatH72 YteegphdelekdaaaGreatH73. -/
import Derived.Test.YteegphdelekdaaaGreatE4
import Derived.Test.YteegphdelekdaaaGreatE8
import Derived.Test.YteegphdelekdaaaGreatE13
/- The abstract machine, part Z: what is known of the heap may be told otherwise at a loop's head; names lent for a time. -/
set_option linter.unusedVariables false
set_option linter.unusedSimpArgs false
namespace Go.Abs
/-- What is known of a frame and a heap, told otherwise. -/
def Chg (n : Nat) (env : Env) (H : Heap) (env' : Env) (H' : Heap) : Prop := ∀ (B : Base) (m : Nat → Option (Nat × Nat)) (N : Nat → Prop) (w : World) (a : Act), St B m H N w → ARel m H N w env a → a.tmps.size = n → ∃ m', St B m' H' N w ∧ ARel m' H' N w env' a ∧ Ch m H N w m' H' N w
theorem Chg.refl {n : Nat} {env : Env} {H : Heap} : Chg n env H env H := fun B m N w a hS hA hn => ⟨m, hS, hA, Ch.refl ..⟩
theorem Chg.trans {n : Nat} {env env1 env2 : Env} {H H1 H2 : Heap} (h1 : Chg n env H env1 H1) (h2 : Chg n env1 H1 env2 H2) : Chg n env H env2 H2 := fun B m N w a hS hA hn => by
  obtain ⟨m1, hS1, hA1, hC1⟩ := h1 B m N w a hS hA hn
  obtain ⟨m2, hS2, hA2, hC2⟩ := h2 B m1 N w a hS1 hA1 hn
  exact ⟨m2, hS2, hA2, hC1.trans hC2⟩
variable {P : Program} {n : Nat} {pl : Plans}
/-- A loop, what is known being told otherwise at each round's end. -/
theorem ALoop.introC {x : Code} {Q : Exit → Env → Heap → Prop} {env : Env} {H : Heap} (I : Nat → Env → Heap → Prop) (k : Nat) (hf : fits P n pl x = true) (h0 : I k env H)
    (round : ∀ k env H, I k env H → cwp P n pl x (thenQ (fun env' H' => ∃ k' env'' H'', k' < k ∧ Chg n env' H' env'' H'' ∧ I k' env'' H'') Q) env H) : ALoop P n x Q env H := by
  intro B m N w a hS hA hn
  refine wp_loop_ghost (fun k a' w' => ∃ env' m' H' N', I k env' H' ∧ St B m' H' N' w' ∧ ARel m' H' N' w' env' a' ∧ a'.tmps.size = n ∧ Ch m H N w m' H' N' w') k ⟨env, m, H, N, h0, hS, hA, hn, Ch.refl ..⟩ ?_
  rintro k a1 w1 ⟨env1, m1, H1, N1, hI, hS1, hA1, hn1, hC1⟩
  refine wp_mono (cwp_sound x _ env1 H1 hf (round k env1 H1 hI) B m1 N1 w1 a1 hS1 hA1 hn1) fun e a' w' hE => ?_
  obtain ⟨m', H', N', env', h1, h2, h3, h4, h5⟩ := hE
  cases e with
  | normal =>
    obtain ⟨k', env'', H'', hk, hc, hI'⟩ := h1
    obtain ⟨m2, hS2, hA2, hC2⟩ := hc B m' N' w' a' h2 h3 h4
    exact ⟨k', hk, env'', m2, H'', N', hI', hS2, hA2, h4, (hC1.trans h5).trans hC2⟩
  | _ => exact ⟨m', H', N', env', h1, h2, h3, h4, hC1.trans h5⟩
/-- A cell of block b leads to a block of the text's: it is given the name j. -/
theorem Chg.adoptCell {env : Env} {H : Heap} {b i s j v vb Tb szb T sz off len : Nat} {cs inner : List AV} (hb : H b = .cells vb Tb szb cs) (hi : cs[i]? = some (.ref s v off len)) (hH : H s = .cells v T sz inner) (hs : s < 1000000) (hj : 1000000 ≤ j) (hbs : b ≠ s) (hbj : b ≠ j) :
    Chg n env H env (upd (upd (upd H s (.gone (v + 1))) j (.cells ((H j).ver + 1) T sz inner)) b (.cells vb Tb szb (cs.set i (.ref j ((H j).ver + 1) off len)))) := by
  intro B m N w a hS hA hn
  have hlt : i < cs.length := (List.getElem?_eq_some_iff.1 hi).1
  have hne : cs ≠ [] := by intro e; rw [e] at hi; simp at hi
  obtain ⟨bb, sh, hm⟩ := hS.there hb hne
  obtain ⟨_, _, c0, hc0, hl, hr⟩ := hS.own b vb Tb szb cs bb sh hb hm
  obtain ⟨hS2, hC2⟩ := hS.adopt hs hj hH
  have hb2 : (upd (upd H s (.gone (v + 1))) j (.cells ((H j).ver + 1) T sz inner)) b = .cells vb Tb szb cs := by rw [upd_ne _ _ hbj, upd_ne _ _ hbs, hb]
  have hm2 : (upd m j (m s)) b = some (bb, sh) := by rw [upd_ne _ _ hbj, hm]
  have hrow := hS2.row hb2 hm2 hc0 vb sh (.inl ⟨rfl, rfl⟩) (cs.set i (.ref j ((H j).ver + 1) off len)) c0 rfl (by simpa using hl) fun k y u h1 h2 => by
    by_cases e : k = i
    · subst e
      rw [List.getElem?_set_self hlt] at h1
      cases h1
      have hv := hr k _ u hi h2
      exact Adopts.rel (cs := inner) hH (by rw [upd_same]) (by rw [upd_same]) hC2 (.ref off len) hv
    · rw [List.getElem?_set_ne (Ne.symm e)] at h1
      exact (hr k y u h1 h2).ch hC2
  have hw : w.setRow bb c0 = w := setRow_self w bb c0 Tb (0, 0) hc0
  obtain ⟨hS3, hC3⟩ := hrow
  rw [hw] at hS3 hC3
  exact ⟨_, hS3, ⟨hA.defers, fun t => ((hA.tmp t).ch hC2).ch hC3⟩, hC2.trans hC3⟩
variable {g : FuncId}
/-- Names of which nothing is there yet are lent to a call that looks at other things of ours. -/
theorem ACall.ivL {args args' : List AV} {H : Heap} {R K : AV → Heap → Prop} {d n : Nat} (hd : 1000000 ≤ d) (hg : ∀ i, d ≤ i → i < d + n → ∃ v, H i = .gone v)
    (hv : Views H (inI d n) id (fun j => !inI d n j) args args') (h : ACall P g args' (sub d n H) R)
    (hK : ∀ r H', R r H' → within (inI d n) (fun _ => false) r = true ∧ (∀ i v T sz cs, d ≤ i → i < d + n → H' i = .cells v T sz cs → withinL (inI d n) (fun _ => false) cs = true) ∧ K r (joi d n H' H)) : ACall P g args H K := by
  have hm : ∀ i, i ∈ List.range' d n ↔ inI d n i = true := fun i => by rw [inI_iff]; simp [List.mem_range'_1]
  refine ACall.lift h (List.range' d n) id (fun j => !inI d n j) (fun _ => false) (fun _ => false) ?_ (fun _ _ _ _ h => h) ?_ ?_ ?_ ?_ (by simp) (by simp) (.inr (by simp)) ?_ ?_
  · intro i hi; have := inI_iff.1 ((hm i).1 hi); omega
  · intro i hi; simp only [id, sub, (hm i).1 hi, if_true, blk_self]
  · intro i hi v T sz cs h1
    simp only [sub, (hm i).1 hi, if_true] at h1
    have := inI_iff.1 ((hm i).1 hi)
    obtain ⟨v0, h0⟩ := hg i this.1 this.2
    rw [h0] at h1; cases h1
  · intro i v T sz cs h1
    simp only [sub] at h1
    split at h1
    · rename_i h2; exact (hm i).2 h2
    · cases h1
  · intro i hi
    simp only [id, (hm i).1 hi, Bool.not_true]
  · rw [inI_eq]; exact hv
  · intro r' H' hR
    obtain ⟨h1, h2, h3⟩ := hK r' H' hR
    refine ⟨r', .keep _ (by rw [inI_eq]; exact h1), fun i hi v T sz cs h4 => by
      rw [inI_eq]
      have := inI_iff.1 ((hm i).1 hi)
      exact h2 i v T sz cs this.1 this.2 h4, ?_⟩
    rw [ren_self, joinH_iv]
    exact h3
end Go.Abs

set_option linter.unusedVariables false
set_option linter.unusedSimpArgs false
namespace Go.Proofs.YteegphdelekdaaaGreat
open Go.Abs Go.IntWalk
set_option maxRecDepth 100000
attribute [local go_sem] eI eU eNs eN cN eChs eCh cCh eCos eCo cCo eP take_map eII
/-! Commands played one behind the other. -/
abbrev Pl := List Nat × List (List Nat) × List Bool
def plStep (p : PProg) (x : Pl) (c : Int) : Pl := (if stepOk p x.1 c then stepOf p x.1 c else x.1, x.2.1 ++ [if stepOk p x.1 c then stepOf p x.1 c else x.1], x.2.2 ++ [decide (stepOk p x.1 c)])
def plF (p : PProg) (s : List Nat) (cs : List Int) : Pl := cs.foldl (plStep p) (s, [], [])
theorem plF_app {p : PProg} {s : List Nat} {cs : List Int} {c : Int} : plF p s (cs ++ [c]) = plStep p (plF p s cs) c := by
  unfold plF; rw [List.foldl_append]; rfl
theorem step_wf {p : PProg} {s : List Nat} {k : Int} (h : stepOk p s k) : wfU (stepOf p s k) := by
  obtain ⟨w, v, e1, e2, g1, g2, g3, g4, h5, h6⟩ := state_conds h.1
  obtain ⟨_, c, hc, _⟩ := h.2
  have hok := h.1.1.2.2 c (List.mem_of_getElem? hc)
  have : stepOf p s k = stepTo w s c.2 s := by unfold stepOf; rw [if_pos h, hc, e1, Int.toNat_natCast]; rfl
  rw [this]
  intro x hx
  have h7 := step_lt h5 h6 c.2 (-1) s (by rw [← e1, ← e2]; exact hok.2) h6 x hx
  have h8 : 2 ^ w ≤ 2 ^ 64 := Nat.pow_le_pow_right (by omega) g2
  omega
structure PI (v n : Nat) (x : Pl) : Prop where
  len : x.1.length = v
  wf : wfU x.1
  all : ∀ y ∈ x.2.1, y.length = v
  ln1 : x.2.1.length = n
  ln2 : x.2.2.length = n
theorem PI.step {p : PProg} {v n : Nat} {x : Pl} {c : Int} (h : PI v n x) : PI v (n + 1) (plStep p x c) := by
  have hl : (if stepOk p x.1 c then stepOf p x.1 c else x.1).length = v := by
    split
    · rename_i hs; rw [step_len hs]; exact h.len
    · exact h.len
  refine ⟨hl, ?_, fun y hy => ?_, by simp [plStep, h.ln1], by simp [plStep, h.ln2]⟩
  · simp only [plStep]
    split
    · rename_i hs; exact step_wf hs
    · exact h.wf
  · simp only [plStep] at hy
    rcases List.mem_append.1 hy with hy | hy
    · exact h.all y hy
    · rw [List.mem_singleton.1 hy]; exact hl
theorem plF_I {p : PProg} {s : List Nat} {v : Nat} (hs : s.length = v) (hw : wfU s) (cs : List Int) : ∀ i, i ≤ cs.length → PI v i (plF p s (cs.take i)) := by
  intro i
  induction i with
  | zero => intro _; exact ⟨hs, hw, by simp [plF], rfl, rfl⟩
  | succ i ih =>
    intro hi
    obtain ⟨c, hc⟩ := get_some (l := cs) (i := i) (by omega)
    rw [take_one hc, plF_app]
    exact (ih (by omega)).step
/-- Lists of words, each in a block of its own. -/
def ucells (d : Nat) (H : Heap) (out : List (List Nat)) : List AV := (List.range out.length).map fun x => .ref (d + x) (H (d + x)).ver 0 ((out[x]?).getD []).length
def atU (d : Nat) (H : Heap) (out : List (List Nat)) : Prop := ∀ x : Nat, x < out.length → ∃ v, H (d + x) = .cells v 73 1 (((out[x]?).getD []).map U64)
theorem uc_len {d : Nat} {H : Heap} {out : List (List Nat)} : (ucells d H out).length = out.length := by simp [ucells]
theorem uc_get {d x : Nat} {H : Heap} {out : List (List Nat)} (h : x < out.length) : (ucells d H out)[x]? = some (.ref (d + x) (H (d + x)).ver 0 ((out[x]?).getD []).length) := by
  unfold ucells
  rw [List.getElem?_map, List.getElem?_range h]; rfl
theorem uc_congr {d : Nat} {H H' : Heap} {out : List (List Nat)} (h : ∀ x, x < out.length → H' (d + x) = H (d + x)) : ucells d H' out = ucells d H out := by
  unfold ucells
  refine List.map_congr_left fun x hx => ?_
  rw [h x (List.mem_range.1 hx)]
theorem atU_congr {d : Nat} {H H' : Heap} {out : List (List Nat)} (h : ∀ x, x < out.length → H' (d + x) = H (d + x)) (ha : atU d H out) : atU d H' out := fun x hx => by rw [h x hx]; exact ha x hx
theorem set_end {α : Type} {l : List α} {a b : α} {i : Nat} (h : l.length = i) : (l ++ [a]).set i b = l ++ [b] := by subst h; simp
theorem uc_snoc {d ver i : Nat} {H H' : Heap} {out : List (List Nat)} {l : List Nat} (hi : out.length = i) (h : ∀ x, x < i → H' (d + x) = H (d + x)) (hl : H' (d + i) = .cells ver 73 1 (l.map U64)) (ha : atU d H out) : ucells d H' (out ++ [l]) = ucells d H out ++ [.ref (d + i) ver 0 l.length] ∧ atU d H' (out ++ [l]) := by
  subst hi
  have e1 : ∀ x, x < out.length → ((out ++ [l])[x]?).getD [] = (out[x]?).getD [] := fun x hx => by rw [List.getElem?_append_left hx]
  have e2 : ((out ++ [l])[out.length]?).getD [] = l := by rw [List.getElem?_append_right (Nat.le_refl _)]; simp
  constructor
  · unfold ucells
    rw [List.length_append, List.length_singleton, List.range_succ, List.map_append]
    congr 1
    · refine List.map_congr_left fun x hx => ?_
      have := List.mem_range.1 hx
      rw [h x this, e1 x this]
    · simp only [List.map_cons, List.map_nil, e2, hl]; rfl
  · intro x hx
    rw [List.length_append, List.length_singleton] at hx
    by_cases e : x < out.length
    · rw [h x e, e1 x e]; exact ha x e
    · obtain rfl : x = out.length := by omega
      rw [e2]; exact ⟨ver, hl⟩
theorem at_snoc {d i : Nat} {H H' : Heap} {out : List (List Nat)} {l : List Nat} (hi : out.length = i) (h : ∀ x, x < i → H' (d + x) = H (d + x)) (hl : H' (d + i) = .cells (H' (d + i)).ver 73 1 (l.map U64)) (ha : atU d H out) : atU d H' (out ++ [l]) := (uc_snoc hi h hl ha).2
def eUU (l : List (List Nat)) : AV := .sl 1 (l.map eU)
def eBs (l : List Bool) : AV := .sl 1 (l.map AV.bool)
theorem resUU {d id ver : Nat} {H : Heap} {out : List (List Nat)} {n : Nat} (hn : out.length = n) {T : Nat} (h1 : H id = .cells ver T 1 (ucells d H out)) (h2 : atU d H out) : Res (fun _ => false) anyAV H (.ref id ver 0 n) (eUU out) := by
  subst hn
  refine .frz _ _ (.ref id ver 0 out.length T 1 (ucells d H out) (out.map eU) rfl h1 (by rw [List.length_map]) (by rw [uc_len]; omega) (fun j e he => ?_) fun k x y hx hy => ?_)
  · obtain ⟨l, _, rfl⟩ := List.mem_map.1 (List.mem_of_getElem? he)
    rfl
  · rw [Nat.zero_add] at hx
    have hk : k < out.length := by have := (List.getElem?_eq_some_iff.1 hx).1; rw [uc_len] at this; exact this
    rw [uc_get hk] at hx
    cases hx
    rw [flat_map1 (f := eU) (fun _ => rfl), List.getElem?_map, List.getElem?_eq_getElem hk] at hy
    cases hy
    have e : (out[k]?).getD [] = out[k] := by rw [List.getElem?_eq_getElem hk]; rfl
    obtain ⟨v, hv⟩ := h2 k hk
    rw [e] at hv ⊢
    rw [hv]
    exact frU rfl hv
theorem resBs {id ver : Nat} {H : Heap} {F : List Bool} {n : Nat} (hn : F.length = n) {T : Nat} (h1 : H id = .cells ver T 1 (F.map AV.bool)) : Res (fun _ => false) anyAV H (.ref id ver 0 n) (eBs F) := by
  subst hn
  exact .frz _ _ (FRes.map1 (f := AV.bool) (fun _ => rfl) (fun _ => rfl) rfl rfl h1)
/-! PlayCommands. -/
def playOk (p : PProg) (s : List Nat) (cs : List Int) : Prop := stateOk p s ∧ cs.length ≤ 60
instance (p : PProg) (s : List Nat) (cs : List Int) : Decidable (playOk p s cs) := by unfold playOk; infer_instance
def playO (p : PProg) (s : List Nat) (cs : List Int) : List (List Nat) := if playOk p s cs then (plF p s cs).2.1 else []
def playB (p : PProg) (s : List Nat) (cs : List Int) : List Bool := if playOk p s cs then (plF p s cs).2.2 else []
theorem c_playS {p : PProg} {s : List Nat} {cs : List Int} (hw : wfP p) (hsm : smProgram p) (hs : wfU s) (hl : s.length ≤ 1048576) (hcl : cs.length ≤ 1048576) {H : Heap} {K : AV → Heap → Prop} (hK : K (.tup [eUU (playO p s cs), eBs (playB p s cs), .bool (decide (playOk p s cs))]) H) : ACall Tryz.prog 13 [eP p, eU s, eI cs] H K := by
  refine ACall.pure (R := fun r H' => (playOk p s cs ∧ ∃ va vb, r = .tup [.ref 900 va 0 cs.length, .ref 901 vb 0 cs.length, .bool true] ∧ H' 900 = .cells va 26 1 (ucells 1000000 H' (plF p s cs).2.1) ∧ atU 1000000 H' (plF p s cs).2.1 ∧ H' 901 = .cells vb 4 1 ((plF p s cs).2.2.map AV.bool)) ∨ (¬ playOk p s cs ∧ r = .tup [.nil, .nil, .bool false])) rfl ?_ ?_
  · generalize hR : (fun (r : AV) (H' : Heap) => (playOk p s cs ∧ ∃ va vb, r = AV.tup [.ref 900 va 0 cs.length, .ref 901 vb 0 cs.length, .bool true] ∧ H' 900 = Blk.cells va 26 1 (ucells 1000000 H' (plF p s cs).2.1) ∧ atU 1000000 H' (plF p s cs).2.1 ∧ H' 901 = Blk.cells vb 4 1 ((plF p s cs).2.2.map AV.bool)) ∨ (¬ playOk p s cs ∧ r = AV.tup [.nil, .nil, .bool false])) = R
    have bad : ¬ playOk p s cs → ∀ H' : Heap, R (.tup [.nil, .nil, .bool false]) H' := fun h H' => by rw [← hR]; exact .inr ⟨h, rfl⟩
    refine call13 (by simp) ?_
    simp only [Tryz.results13, Tryz.ntmps13, Tryz.f13, Option.getD_some, pl13]
    simp only [go_sem]
    refine c_goodPS (p := p) hw hsm ?_
    by_cases hg : goodP p
    · simp only [go_sem, hg]
      refine c_l7State (p := p) hs (by omega) ?_
      by_cases h2 : okS p.1 p.2.1 s
      · have h : stateOk p s := ⟨hg, h2⟩
        obtain ⟨w, v, e1, e2, g1, g2, g3, g4, h5, h6⟩ := state_conds h
        by_cases h60 : (60 : Int) < cs.length
        · simp only [go_sem, h2, h60]
          exact bad (fun h => by have := h.2; omega) _
        · simp only [go_sem, h2, h60]
          refine ALoop.thaw 900 26 1 (t := 9) (by simp only [go_sem]) ?_
          refine ALoop.thaw 901 4 1 (t := 10) (by simp only [go_sem]) ?_
          refine ALoop.introC (pl := pl13) (fun k env H => ∃ (i v3 va vb : Nat), env 1 = eU (plF p s (cs.take i)).1 ∧ env 3 = .ptr 3 v3 0 ∧ env 9 = .ref 900 va 0 i ∧ env 10 = .ref 901 vb 0 i ∧ env 29 = eI cs ∧ env 30 = I64 cs.length ∧ env 31 = I64 i ∧ H 3 = .cells v3 36 1 [I64 p.1, I64 p.2.1, eNs p.2.2.1, eCos p.2.2.2] ∧ H 900 = .cells va 26 1 (ucells 1000000 H (plF p s (cs.take i)).2.1) ∧ atU 1000000 H (plF p s (cs.take i)).2.1 ∧ H 901 = .cells vb 4 1 ((plF p s (cs.take i)).2.2.map AV.bool) ∧ i + k = cs.length) cs.length (by kernel_rfl) ?_ ?_
          · simp only [go_sem]
            exact ⟨0, _, _, _, rfl, rfl, rfl, rfl, rfl, rfl, rfl, (fun x hx => nomatch hx), rfl, by omega⟩
          · rintro k env H ⟨i, v3, va, vb, e1, e3, e9, e10, e29, e30, e31, b3, b900, ha, b901, hk⟩
            have hI := plF_I (p := p) rfl hs cs i (by omega)
            generalize hx : plF p s (cs.take i) = x at hI e1 b900 ha b901
            by_cases hz : (i : Int) < cs.length
            · obtain ⟨c, hc⟩ := get_some (l := cs) (i := i) (by omega)
              have happ : plF p s (cs.take (i + 1)) = plStep p x c := by rw [take_one hc, plF_app, hx]
              have h0 : (0 : Int) ≤ i := by omega
              have hwi : IntKind.wrap .i64 ((i : Int) + 1) = i + 1 := i64_in _ (by omega)
              have hlen := hI.len
              have hulen : (ucells 1000000 H x.2.1).length = i := by rw [uc_len, hI.ln1]
              simp only [go_sem, pl13, e1, e3, e9, e10, e29, e30, e31, b3, b900, b901, hz, hc, h0]
              refine c_stepByS (p := p) (s := x.1) (k := c) hw hsm hI.wf (by omega) ?_
              by_cases hst : stepOk p x.1 c
              · have hl2 := step_len hst
                obtain ⟨y, t, hyt⟩ : ∃ y t, stepOf p x.1 c = y :: t := by
                  cases he : stepOf p x.1 c with
                  | nil => rw [he] at hl2; simp at hl2; omega
                  | cons y t => exact ⟨y, t, rfl⟩
                have htl : t.length + 1 = s.length := by rw [← hlen, ← hl2, hyt]; rfl
                have htk : List.take i (ucells 1000000 H x.2.1) = ucells 1000000 H x.2.1 := List.take_of_length_le (by omega)
                have htb : List.take i (List.map AV.bool x.2.2) = List.map AV.bool x.2.2 := List.take_of_length_le (by rw [List.length_map, hI.ln2]; omega)
                have hf := flat1 U64 (fun _ => rfl) t
                have hsc : (List.map U64 t).all AV.scalar = true := sc_map (fun _ => rfl) t
                rw [hyt]
                simp only [go_sem, pl13, e1, e3, e9, e10, e29, e30, e31, b3, b900, b901, hz, hc, h0, hst, hwi, decide_true, List.map_cons, hf, hsc, htk, htb]
                refine ⟨by omega, by omega, by omega, by have := hI.ln2; omega, by omega, k - 1, _, _, by omega, Chg.adoptCell (b := 900) (s := 45) (j := 1000000 + i) (i := i) (off := 0) (len := t.length + 1) (by simp only [go_sem]; rfl) ?_ (by simp only [go_sem]; rfl) (by omega) (by omega) (by omega) (by omega), ?_⟩
                · rw [List.getElem?_append_right (by omega), hulen, Nat.sub_self]; rfl
                · refine ⟨i + 1, v3, va + 1, vb + 1, ?_⟩
                  have n1 : (3 = 1000000 + i) = False := eq_false (by omega)
                  have n2 : (900 = 1000000 + i) = False := eq_false (by omega)
                  have n3 : (901 = 1000000 + i) = False := eq_false (by omega)
                  have n4 : ((1000000 + i) = 900) = False := eq_false (by omega)
                  have hps : plStep p x c = (stepOf p x.1 c, x.2.1 ++ [stepOf p x.1 c], x.2.2 ++ [true]) := by simp [plStep, hst]
                  rw [happ, hps, hyt]
                  simp only [go_sem, e1, e3, e9, e10, e29, e30, e31, b3, b900, b901, n1, n2, n3, n4, List.map_cons, List.map_append]
                  rw [set_end hulen]
                  refine ⟨rfl, ?_, ?_, by omega⟩
                  · refine congrArg (Blk.cells (va + 1) 26 1) (Eq.symm ((uc_snoc (l := y :: t) hI.ln1 (fun z hz => ?_) ?_ ha).1.trans rfl))
                    · simp only [upd]
                      repeat rw [if_neg (by omega)]
                    · rw [upd_ne _ _ (by omega), upd_same]; try rfl
                  · refine at_snoc (l := y :: t) hI.ln1 (fun z hz => ?_) ?_ ha
                    · simp only [upd]
                      repeat rw [if_neg (by omega)]
                    · rw [upd_ne _ _ (by omega), upd_same]; try rfl
              · have htk : List.take i (ucells 1000000 H x.2.1) = ucells 1000000 H x.2.1 := List.take_of_length_le (by omega)
                have htb : List.take i (List.map AV.bool x.2.2) = List.map AV.bool x.2.2 := List.take_of_length_le (by rw [List.length_map, hI.ln2]; omega)
                have hf := flat1 U64 (fun _ => rfl) x.1
                have hsc : (List.map U64 x.1).all AV.scalar = true := sc_map (fun _ => rfl) x.1
                simp only [go_sem, pl13, e1, e3, e9, e10, e29, e30, e31, b3, b900, b901, hz, hc, h0, hst, hwi, decide_false, hf, hsc, htk, htb]
                refine ⟨by omega, by omega, by omega, by have := hI.ln2; omega, by omega, k - 1, _, _, by omega, Chg.adoptCell (b := 900) (s := 45) (j := 1000000 + i) (i := i) (off := 0) (len := x.1.length) (by simp only [go_sem]; rfl) ?_ (by simp only [go_sem]; rfl) (by omega) (by omega) (by omega) (by omega), ?_⟩
                · rw [List.getElem?_append_right (by omega), hulen, Nat.sub_self]; rfl
                · refine ⟨i + 1, v3, va + 1, vb + 1, ?_⟩
                  have n1 : (3 = 1000000 + i) = False := eq_false (by omega)
                  have n2 : (900 = 1000000 + i) = False := eq_false (by omega)
                  have n3 : (901 = 1000000 + i) = False := eq_false (by omega)
                  have n4 : ((1000000 + i) = 900) = False := eq_false (by omega)
                  have hps : plStep p x c = (x.1, x.2.1 ++ [x.1], x.2.2 ++ [false]) := by simp [plStep, hst]
                  rw [happ, hps]
                  simp only [go_sem, e1, e3, e9, e10, e29, e30, e31, b3, b900, b901, n1, n2, n3, n4, List.map_cons, List.map_append]
                  rw [set_end hulen]
                  refine ⟨rfl, ?_, ?_, by omega⟩
                  · refine congrArg (Blk.cells (va + 1) 26 1) (Eq.symm ((uc_snoc (l := x.1) hI.ln1 (fun z hz => ?_) ?_ ha).1.trans rfl))
                    · simp only [upd]
                      repeat rw [if_neg (by omega)]
                    · rw [upd_ne _ _ (by omega), upd_same]; try rfl
                  · refine at_snoc (l := x.1) hI.ln1 (fun z hz => ?_) ?_ ha
                    · simp only [upd]
                      repeat rw [if_neg (by omega)]
                    · rw [upd_ne _ _ (by omega), upd_same]; try rfl
            · simp only [go_sem, pl13, e1, e3, e9, e10, e29, e30, e31, b3, b900, b901, hz]
              have hi : i = cs.length := by omega
              subst hi
              rw [List.take_of_length_le (Nat.le_refl _)] at hx
              rw [← hR, hx]
              exact .inl ⟨⟨h, by omega⟩, va, vb, rfl, b900, ha, b901⟩
      · simp only [go_sem, h2]
        exact bad (fun h => h2 h.1.2) _
    · simp only [go_sem, hg]
      exact bad (fun h => hg h.1.1) _
  · rintro r H' (⟨h, va, vb, rfl, h2, h3, h4⟩ | ⟨h, rfl⟩)
    · rw [decide_eq_true h] at hK
      have hI := plF_I (p := p) rfl hs cs cs.length (Nat.le_refl _)
      rw [List.take_of_length_le (Nat.le_refl _)] at hI
      have e1 : playO p s cs = (plF p s cs).2.1 := if_pos h
      have e2 : playB p s cs = (plF p s cs).2.2 := if_pos h
      rw [e1, e2] at hK
      exact ⟨_, .tup3 (resUU hI.ln1 h2 h3) (resBs hI.ln2 h4) (.cl rfl), rfl, hK⟩
    · have e1 : playO p s cs = [] := if_neg h
      have e2 : playB p s cs = [] := if_neg h
      rw [decide_eq_false h, e1, e2] at hK
      exact ⟨_, .tup3 (.frz _ _ (.nil 1)) (.frz _ _ (.nil 1)) (.cl rfl), rfl, hK⟩
end Go.Proofs.YteegphdelekdaaaGreat

set_option linter.unusedVariables false
set_option linter.unusedSimpArgs false
namespace Go.Proofs.YteegphdelekdaaaGreat
open Go.Abs Go.IntWalk
set_option maxRecDepth 100000
attribute [local go_sem] eI eU eNs eN cN eChs eCh cCh eCos eCo cCo eP take_map eII
/-! The play of the program. -/
theorem k_playI {p : PProg} {s : List Nat} {cs : List Int} (hw : wfP p) (hsm : smProgram p) (hs : wfU s) (hl : s.length ≤ 1048576) (hcl : cs.length ≤ 1048576) {H : Heap} (hg : ∀ i, 1000000 ≤ i → i < 1000062 → ∃ v, H i = .gone v) :
    ACall Tryz.prog 17 [eP p, eU s, eI cs] H fun r H' => (playOk p s cs ∧ ∃ va vb, r = .tup [.ref 24 va 0 cs.length, .ref 25 vb 0 cs.length, .bool true] ∧ H' 24 = .cells va 26 1 (ucells 1000002 H' (plF p s cs).2.1) ∧ atU 1000002 H' (plF p s cs).2.1 ∧ H' 25 = .cells vb 4 1 ((plF p s cs).2.2.map AV.bool) ∧ ∀ j, 1000000 ≤ j → (j < 1000002 ∨ 1000002 + cs.length ≤ j) → H' j = H j) ∨ (¬ playOk p s cs ∧ r = .tup [.nil, .nil, .bool false] ∧ ∀ j, 1000000 ≤ j → H' j = H j) := by
  generalize hR : (fun (r : AV) (H' : Heap) => (playOk p s cs ∧ ∃ va vb, r = AV.tup [.ref 24 va 0 cs.length, .ref 25 vb 0 cs.length, .bool true] ∧ H' 24 = Blk.cells va 26 1 (ucells 1000002 H' (plF p s cs).2.1) ∧ atU 1000002 H' (plF p s cs).2.1 ∧ H' 25 = Blk.cells vb 4 1 ((plF p s cs).2.2.map AV.bool) ∧ ∀ j, 1000000 ≤ j → (j < 1000002 ∨ 1000002 + cs.length ≤ j) → H' j = H j) ∨ (¬ playOk p s cs ∧ r = AV.tup [.nil, .nil, .bool false] ∧ ∀ j, 1000000 ≤ j → H' j = H j)) = R
  have bad : ¬ playOk p s cs → ∀ H' : Heap, (∀ j, 1000000 ≤ j → H' j = H j) → R (.tup [.nil, .nil, .bool false]) H' := fun h H' h2 => by rw [← hR]; exact .inr ⟨h, rfl, h2⟩
  refine call17 (by simp) ?_
  simp only [Tryz.results17, Tryz.ntmps17, Tryz.f17, Option.getD_some, pl17]
  simp only [go_sem]
  refine c_isStateOf (p := p) hw hsm hs (by omega) ?_
  by_cases h : stateOk p s
  · obtain ⟨w, v, e1, e2, g1, g2, g3, g4, h5, h6⟩ := state_conds h
    by_cases h60 : (60 : Int) < cs.length
    · simp only [go_sem, h, h60]
      refine bad (fun h => by have := h.2; omega) _ fun j hj => ?_
      simp only [upd]
      repeat rw [if_neg (by omega)]
    · simp only [go_sem, h, h60]
      refine ALoop.intro (pl := pl17) (fun k env H' => ∃ (i v3 va vb : Nat), env 1 = eU (plF p s (cs.take i)).1 ∧ env 3 = .ptr 3 v3 0 ∧ env 9 = .ref 24 va 0 i ∧ env 10 = .ref 25 vb 0 i ∧ env 26 = eI cs ∧ env 27 = I64 cs.length ∧ env 28 = I64 i ∧ H' 3 = .cells v3 36 1 [I64 p.1, I64 p.2.1, eNs p.2.2.1, eCos p.2.2.2] ∧ H' 24 = .cells va 26 1 (ucells 1000002 H' (plF p s (cs.take i)).2.1) ∧ atU 1000002 H' (plF p s (cs.take i)).2.1 ∧ H' 25 = .cells vb 4 1 ((plF p s (cs.take i)).2.2.map AV.bool) ∧ (∀ j, 1000000 ≤ j → (j < 1000002 ∨ 1000002 + i ≤ j) → H' j = H j) ∧ i + k = cs.length) cs.length (by kernel_rfl) ?_ ?_
      · simp only [go_sem]
        exact ⟨0, _, _, _, rfl, rfl, rfl, rfl, rfl, rfl, rfl, (fun x hx => nomatch hx), rfl, (fun j hj _ => by repeat rw [if_neg (by omega)]), by omega⟩
      · rintro k env H' ⟨i, v3, va, vb, e1, e3, e9, e10, e26, e27, e28, b3, b24, ha, b25, hfr, hk⟩
        have hI := plF_I (p := p) rfl hs cs i (by omega)
        generalize hx : plF p s (cs.take i) = x at hI e1 b24 ha b25
        by_cases hz : (i : Int) < cs.length
        · obtain ⟨c, hc⟩ := get_some (l := cs) (i := i) (by omega)
          have happ : plF p s (cs.take (i + 1)) = plStep p x c := by rw [take_one hc, plF_app, hx]
          have h0 : (0 : Int) ≤ i := by omega
          have hwi : IntKind.wrap .i64 ((i : Int) + 1) = i + 1 := i64_in _ (by omega)
          have hlen := hI.len
          have hulen : (ucells 1000002 H' x.2.1).length = i := by rw [uc_len, hI.ln1]
          have htk : List.take i (ucells 1000002 H' x.2.1) = ucells 1000002 H' x.2.1 := List.take_of_length_le (by omega)
          have htb : List.take i (List.map AV.bool x.2.2) = List.map AV.bool x.2.2 := List.take_of_length_le (by rw [List.length_map, hI.ln2]; omega)
          have n1 : (3 = 1000002 + i) = False := eq_false (by omega)
          have n2 : (24 = 1000002 + i) = False := eq_false (by omega)
          have n3 : (25 = 1000002 + i) = False := eq_false (by omega)
          simp only [go_sem, pl17, e1, e3, e9, e10, e26, e27, e28, b3, b24, b25, hz, hc, h0]
          refine c_stepByI (p := p) (s := x.1) (k := c) hw hsm hI.wf (by omega) ?_
          by_cases hst : stepOk p x.1 c
          · have hl2 := step_len hst
            simp only [go_sem, pl17, e1, e3, e9, e10, e26, e27, e28, b3, b24, b25, hz, hc, h0, hst]
            refine o_clone (s := stepOf p x.1 c) (1000002 + i) (by omega) (by omega) (by omega) ?_ fun ver => ?_
            · have := hfr (1000002 + i) (by omega) (.inr (by omega))
              obtain ⟨v0, hg0⟩ := hg (1000002 + i) (by omega) (by omega)
              exact ⟨v0, by rw [this, hg0]⟩
            simp only [go_sem, pl17, e1, e3, e9, e10, e26, e27, e28, b3, b24, b25, hz, hc, h0, hst, hwi, htk, htb, n1, n2, n3]
            refine ⟨by omega, by omega, by have := hI.ln2; omega, by omega, k - 1, by omega, i + 1, v3, va + 1, vb + 1, ?_⟩
            rw [happ, show plStep p x c = (stepOf p x.1 c, x.2.1 ++ [stepOf p x.1 c], x.2.2 ++ [true]) by simp [plStep, hst]]
            refine ⟨rfl, rfl, rfl, rfl, rfl, rfl, ?_, ?_, ?_, fun j hj1 hj2 => ?_, by omega⟩
            · refine congrArg (Blk.cells (va + 1) 26 1) (Eq.symm ((uc_snoc (l := stepOf p x.1 c) (ver := ver) hI.ln1 (fun z hz => ?_) ?_ ha).1.trans rfl))
              · simp only [upd]
                repeat rw [if_neg (by omega)]
              · simp only [upd]
                repeat rw [if_neg (by omega)]
                rw [if_pos trivial]
            · refine at_snoc (l := stepOf p x.1 c) hI.ln1 (fun z hz => ?_) ?_ ha
              · simp only [upd]
                repeat rw [if_neg (by omega)]
              · simp only [upd]
                repeat rw [if_neg (by omega)]
                rw [if_pos trivial]
                rfl
            · rw [List.map_append]; rfl
            · repeat rw [if_neg (by omega)]
              exact hfr j hj1 (by omega)
          · simp only [go_sem, pl17, e1, e3, e9, e10, e26, e27, e28, b3, b24, b25, hz, hc, h0, hst]
            refine o_clone (s := x.1) (1000002 + i) (by omega) (by omega) (by omega) ?_ fun ver => ?_
            · have := hfr (1000002 + i) (by omega) (.inr (by omega))
              obtain ⟨v0, hg0⟩ := hg (1000002 + i) (by omega) (by omega)
              exact ⟨v0, by rw [this, hg0]⟩
            simp only [go_sem, pl17, e1, e3, e9, e10, e26, e27, e28, b3, b24, b25, hz, hc, h0, hst, hwi, htk, htb, n1, n2, n3]
            refine ⟨by omega, by omega, by have := hI.ln2; omega, by omega, k - 1, by omega, i + 1, v3, va + 1, vb + 1, ?_⟩
            rw [happ, show plStep p x c = (x.1, x.2.1 ++ [x.1], x.2.2 ++ [false]) by simp [plStep, hst]]
            refine ⟨rfl, rfl, rfl, rfl, rfl, rfl, ?_, ?_, ?_, fun j hj1 hj2 => ?_, by omega⟩
            · refine congrArg (Blk.cells (va + 1) 26 1) (Eq.symm ((uc_snoc (l := x.1) (ver := ver) hI.ln1 (fun z hz => ?_) ?_ ha).1.trans rfl))
              · simp only [upd]
                repeat rw [if_neg (by omega)]
              · simp only [upd]
                repeat rw [if_neg (by omega)]
                rw [if_pos trivial]
            · refine at_snoc (l := x.1) hI.ln1 (fun z hz => ?_) ?_ ha
              · simp only [upd]
                repeat rw [if_neg (by omega)]
              · simp only [upd]
                repeat rw [if_neg (by omega)]
                rw [if_pos trivial]
                rfl
            · rw [List.map_append]; rfl
            · repeat rw [if_neg (by omega)]
              exact hfr j hj1 (by omega)
        · simp only [go_sem, pl17, e1, e3, e9, e10, e26, e27, e28, b3, b24, b25, hz]
          have hi : i = cs.length := by omega
          subst hi
          rw [List.take_of_length_le (Nat.le_refl _)] at hx
          rw [← hR, hx]
          exact .inl ⟨⟨h, by omega⟩, va, vb, rfl, b24, ha, b25, hfr⟩
  · simp only [go_sem, h]
    refine bad (fun hx => h hx.1) _ fun j hj => ?_
    simp only [upd]
    repeat rw [if_neg (by omega)]
theorem withinL_refs {d n : Nat} : ∀ {l : List AV}, (∀ x ∈ l, ∃ i v o k, x = AV.ref i v o k ∧ d ≤ i ∧ i < d + n) → withinL (inI d n) (fun _ => false) l = true
  | [], _ => rfl
  | a :: l, h => by
    obtain ⟨i, v, o, k, rfl, h1, h2⟩ := h a (by simp)
    simp only [withinL, within, Bool.and_eq_true]
    exact ⟨inI_iff.2 ⟨h1, h2⟩, withinL_refs fun x hx => h x (by simp [hx])⟩
theorem uc_refs {d : Nat} {H : Heap} {out : List (List Nat)} {x : AV} (hx : x ∈ ucells d H out) : ∃ i v o k, x = AV.ref i v o k ∧ d ≤ i ∧ i < d + out.length := by
  unfold ucells at hx
  obtain ⟨j, hj, rfl⟩ := List.mem_map.1 hx
  have := List.mem_range.1 hj
  exact ⟨_, _, _, _, rfl, by omega, by omega⟩
/-- Played on things that are lent: the results are ours, under the names from 1000000 on. -/
theorem m_playI {p : PProg} {s : List Nat} {cs : List Int} {d f g ver0 ver1 T0 T1 : Nat} {A : List AV} (hw : wfP p) (hsm : smProgram p) (hs : wfU s) (hl : s.length ≤ 1048576) (hcl : cs.length ≤ 1048576) {H H1 : Heap} {K : AV → Heap → Prop} (hA : oP d H1 p = A) (ha : atP d H1 p) (hcg : ∀ i, d ≤ i → H i = H1 i) (hd : 1000062 ≤ d)
    (hf : H f = .cells ver0 T0 1 (s.map U64)) (hf0 : 1000062 ≤ f) (hgc : H g = .cells ver1 T1 1 (cs.map I64)) (hg0 : 1000062 ≤ g) (hgo : ∀ i, 1000000 ≤ i → i < 1000062 → ∃ v, H i = .gone v)
    (h1 : playOk p s cs → ∀ HJ va vb, (∀ i, i < 1000000 ∨ 1000062 ≤ i → HJ i = H i) → HJ 1000000 = .cells va 26 1 (ucells 1000002 HJ (plF p s cs).2.1) → atU 1000002 HJ (plF p s cs).2.1 → HJ 1000001 = .cells vb 4 1 ((plF p s cs).2.2.map AV.bool) → K (.tup [.ref 1000000 va 0 cs.length, .ref 1000001 vb 0 cs.length, .bool true]) HJ)
    (h2 : ¬ playOk p s cs → ∀ HJ, (∀ i, i < 1000000 ∨ 1000062 ≤ i → HJ i = H i) → K (.tup [.nil, .nil, .bool false]) HJ) : ACall Tryz.prog 17 [.agg A, .ref f ver0 0 s.length, .ref g ver1 0 cs.length] H K := by
  have e1 : oP d H p = oP d H1 p := oP_congr fun i h _ => hcg i h
  rw [← hA, ← e1]
  have ha : atP d H p := atP_congr (fun i h _ => hcg i h) ha
  have nin : ∀ i, 1000062 ≤ i → (!inI 1000000 62 i) = true := fun i hi => by
    cases he : inI 1000000 62 i with
    | false => rfl
    | true => have := inI_iff.1 he; omega
  have hI := plF_I (p := p) rfl hs cs cs.length (Nat.le_refl _)
  rw [List.take_of_length_le (Nat.le_refl _)] at hI
  refine ACall.ivL (d := 1000000) (n := 62) (by omega) (fun i h3 h4 => hgo i h3 (by omega)) (args' := [eP p, eU s, eI cs]) (.cons _ _ _ _ (.frz _ _ (fr_p ha fun i h3 h4 => nin i (by omega))) (.cons _ _ _ _ (.frz _ _ (frU (nin f hf0) hf)) (.cons _ _ _ _ (.frz _ _ (frI (nin g hg0) hgc)) .nil)))
    (R := fun r H' => (playOk p s cs ∧ ∃ va vb, r = .tup [.ref 1000000 va 0 cs.length, .ref 1000001 vb 0 cs.length, .bool true] ∧ H' 1000000 = .cells va 26 1 (ucells 1000002 H' (plF p s cs).2.1) ∧ atU 1000002 H' (plF p s cs).2.1 ∧ H' 1000001 = .cells vb 4 1 ((plF p s cs).2.2.map AV.bool) ∧ ∀ j, 1000002 + cs.length ≤ j → j < 1000062 → ∃ v, H' j = .gone v) ∨ (¬ playOk p s cs ∧ r = .tup [.nil, .nil, .bool false] ∧ ∀ j, 1000000 ≤ j → j < 1000062 → ∃ v, H' j = .gone v)) ?_ ?_
  · have hsub : ∀ i, 1000000 ≤ i → i < 1000062 → ∃ v, sub 1000000 62 H i = .gone v := fun i h3 h4 => by
      unfold sub
      rw [if_pos (inI_iff.2 ⟨h3, by omega⟩)]
      exact hgo i h3 h4
    generalize sub 1000000 62 H = Hs at hsub
    refine ACall.own 1000000 (by omega) (ACall.own 1000001 (by omega) (k_playI hw hsm hs hl hcl hsub) (K := fun r H' => (playOk p s cs ∧ ∃ va vb, r = .tup [.ref 24 va 0 cs.length, .ref 1000001 vb 0 cs.length, .bool true] ∧ H' 24 = .cells va 26 1 (ucells 1000002 H' (plF p s cs).2.1) ∧ atU 1000002 H' (plF p s cs).2.1 ∧ H' 1000001 = .cells vb 4 1 ((plF p s cs).2.2.map AV.bool) ∧ ∀ j, 1000002 + cs.length ≤ j → j < 1000062 → ∃ v, H' j = .gone v) ∨ (¬ playOk p s cs ∧ r = .tup [.nil, .nil, .bool false] ∧ ∀ j, 1000000 ≤ j → j < 1000062 → ∃ v, H' j = .gone v)) ?_) ?_
    · rintro r H' (⟨h, va, vb, rfl, q1, q2, q3, q4⟩ | ⟨h, rfl, q1⟩)
      · have hcong : ∀ (a b : Blk), ∀ x, x < (plF p s cs).2.1.length → (upd (upd H' 25 a) 1000001 b) (1000002 + x) = H' (1000002 + x) := fun a b x hx => by rw [upd_ne _ _ (by omega), upd_ne _ _ (by omega)]
        refine .inl ⟨25, vb, _, 1, _, _, by omega, q3, .tup _ [.ref 24 va 0 cs.length, .ref 1000001 ((H' 1000001).ver + 1) 0 cs.length, .bool true] rfl fun i x y hx hy => ?_, .inl ⟨h, va, _, rfl, ?_, atU_congr (hcong _ _) q2, upd_same .., fun j h3 h4 => ?_⟩⟩
        · match i with
          | 0 => simp at hx hy; subst hx hy; exact .same _
          | 1 => simp at hx hy; subst hx hy; exact .ref ..
          | 2 => simp at hx hy; subst hx hy; exact .same _
          | i + 3 => simp at hx
        · rw [upd_ne _ _ (by omega), upd_ne _ _ (by omega), q1, uc_congr (hcong _ _)]
        · rw [upd_ne _ _ (by omega), upd_ne _ _ (by omega), q4 j (by omega) (.inr h3)]
          exact hsub j (by omega) h4
      · exact .inr (.inr (.inr ⟨h, rfl, fun j h3 h4 => by rw [q1 j h3]; exact hsub j h3 h4⟩))
    · rintro r H' (⟨h, va, vb, rfl, q1, q2, q3, q4⟩ | ⟨h, rfl, q1⟩)
      · have hcong : ∀ (a b : Blk), ∀ x, x < (plF p s cs).2.1.length → (upd (upd H' 24 a) 1000000 b) (1000002 + x) = H' (1000002 + x) := fun a b x hx => by rw [upd_ne _ _ (by omega), upd_ne _ _ (by omega)]
        refine .inl ⟨24, va, _, 1, _, _, by omega, q1, .tup _ [.ref 1000000 ((H' 1000000).ver + 1) 0 cs.length, .ref 1000001 vb 0 cs.length, .bool true] rfl fun i x y hx hy => ?_, .inl ⟨h, _, vb, rfl, ?_, atU_congr (hcong _ _) q2, ?_, fun j h3 h4 => ?_⟩⟩
        · match i with
          | 0 => simp at hx hy; subst hx hy; exact .ref ..
          | 1 => simp at hx hy; subst hx hy; exact .same _
          | 2 => simp at hx hy; subst hx hy; exact .same _
          | i + 3 => simp at hx
        · rw [upd_same, uc_congr (hcong _ _)]
        · rw [upd_ne _ _ (by omega), upd_ne _ _ (by omega), q3]
        · rw [upd_ne _ _ (by omega), upd_ne _ _ (by omega)]
          exact q4 j h3 h4
      · exact .inr (.inr (.inr ⟨h, rfl, q1⟩))
  · have out : ∀ H' i, i < 1000000 ∨ 1000062 ≤ i → joi 1000000 62 H' H i = H i := fun H' i hi => by
      unfold joi
      rw [if_neg fun h => by have := inI_iff.1 h; omega]
    have ins : ∀ H' i, 1000000 ≤ i → i < 1000062 → joi 1000000 62 H' H i = H' i := fun H' i h3 h4 => by
      unfold joi
      rw [if_pos (inI_iff.2 ⟨h3, by omega⟩)]
    rintro r H' (⟨h, va, vb, rfl, q1, q2, q3, q4⟩ | ⟨h, rfl, q1⟩)
    · have h60 := h.2
      have hcong : ∀ x, x < (plF p s cs).2.1.length → joi 1000000 62 H' H (1000002 + x) = H' (1000002 + x) := fun x hx => ins H' _ (by omega) (by have := hI.ln1; omega)
      refine ⟨rfl, fun i v T sz cells h3 h4 hc => ?_, h1 h _ va vb (out H') ?_ (atU_congr hcong q2) ?_⟩
      · by_cases e0 : i = 1000000
        · subst e0
          rw [q1] at hc
          cases hc
          refine withinL_refs fun x hx => ?_
          obtain ⟨i, v, o, k, rfl, h5, h6⟩ := uc_refs hx
          exact ⟨i, v, o, k, rfl, by omega, by have := hI.ln1; omega⟩
        · by_cases e1 : i = 1000001
          · subst e1
            rw [q3] at hc
            cases hc
            exact within_plainM (fun _ => rfl) _
          · by_cases e2 : 1000002 + cs.length ≤ i
            · obtain ⟨v9, h9⟩ := q4 i e2 (by omega)
              rw [h9] at hc; cases hc
            · obtain ⟨v9, h9⟩ := q2 (i - 1000002) (by have := hI.ln1; omega)
              rw [show 1000002 + (i - 1000002) = i by omega, hc] at h9
              cases h9
              exact within_plainM (fun _ => rfl) _
      · rw [ins H' _ (by omega) (by omega), q1, uc_congr hcong]
      · rw [ins H' _ (by omega) (by omega), q3]
    · refine ⟨rfl, fun i v T sz cells h3 h4 hc => ?_, h2 h _ (out H')⟩
      obtain ⟨v9, h9⟩ := q1 i h3 (by omega)
      rw [h9] at hc; cases hc
theorem c_playI {p : PProg} {s : List Nat} {cs : List Int} (hw : wfP p) (hsm : smProgram p) (hs : wfU s) (hl : s.length ≤ 1048576) (hcl : cs.length ≤ 1048576) {H : Heap} {K : AV → Heap → Prop} (hK : K (.tup [eUU (playO p s cs), eBs (playB p s cs), .bool (decide (playOk p s cs))]) H) : ACall Tryz.prog 17 [eP p, eU s, eI cs] H K := by
  refine ACall.pure rfl (k_playI (H := H0) hw hsm hs hl hcl fun i _ _ => ⟨0, rfl⟩) ?_
  · rintro r H' (⟨h, va, vb, rfl, h2, h3, h4, _⟩ | ⟨h, rfl, _⟩)
    · rw [decide_eq_true h] at hK
      have hI := plF_I (p := p) rfl hs cs cs.length (Nat.le_refl _)
      rw [List.take_of_length_le (Nat.le_refl _)] at hI
      have e1 : playO p s cs = (plF p s cs).2.1 := if_pos h
      have e2 : playB p s cs = (plF p s cs).2.2 := if_pos h
      rw [e1, e2] at hK
      exact ⟨_, .tup3 (resUU hI.ln1 h2 h3) (resBs hI.ln2 h4) (.cl rfl), rfl, hK⟩
    · have e1 : playO p s cs = [] := if_neg h
      have e2 : playB p s cs = [] := if_neg h
      rw [decide_eq_false h, e1, e2] at hK
      exact ⟨_, .tup3 (.frz _ _ (.nil 1)) (.frz _ _ (.nil 1)) (.cl rfl), rfl, hK⟩
end Go.Proofs.YteegphdelekdaaaGreat
