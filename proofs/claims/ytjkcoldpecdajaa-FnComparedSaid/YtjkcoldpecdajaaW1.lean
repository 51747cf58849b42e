/- Texts of ours, joined: T2 T4 T5 T6 T7 T8 T9 T10 T11. -/
import Derived.Test.YtjkcoldpecdajaaFn
import Derived.Test.YtjkcoldpecdajaaAbs3
import Derived.IntWalk
set_option linter.unusedVariables false
set_option linter.unusedSimpArgs false
namespace Go.Proofs.Ytjkcoldpecdajaa
open Go.Abs Go.IntWalk
set_option maxRecDepth 100000
abbrev I64 (n : Int) : AV := .int .i64 n
def eB (l : List Int) : AV := .sl 1 (l.map fun b => .int .u8 b)
/-- What stands in a cursor. -/
def cur (code : List Int) (a s : Int) : List AV := [eB code, I64 a, .int .u64 s]
theorem cur_closed (code : List Int) (a s : Int) : closedL (cur code a s) = true := rfl
theorem and_255 (x : Int) : 0 ≤ abits .and .u64 x 255 ∧ abits .and .u64 x 255 ≤ 255 := by
  simp only [abits]
  have h : (BitVec.ofInt IntKind.u64.bits x &&& BitVec.ofInt IntKind.u64.bits 255).toNat ≤ 255 := by
    rw [BitVec.toNat_and]; exact Nat.and_le_right
  rw [u64_in _ (by omega)]
  omega
theorem c_next {id v : Nat} {H : Heap} {K : AV → Heap → Prop} {code : List Int} (hcode : ∀ b ∈ code, 0 ≤ b ∧ b ≤ 255) {at_ seed : Int} (h0 : 0 ≤ at_) (h1 : at_ ≤ 1000000000) (hH : H id = .cells v 102 1 (cur code at_ seed))
    (hK : ∀ r seed', 0 ≤ r → r ≤ 255 → K (I64 r) (upd H id (.cells v 102 1 (cur code (at_ + 1) seed')))) : ACall Try.prog 144 [.ptr id v 0] H K := by
  refine ACall.ptr1 (xs := []) (R := fun r H' => ∃ n s, r = I64 n ∧ 0 ≤ n ∧ n ≤ 255 ∧ H' 1000000 = .cells v 102 1 (cur code (at_ + 1) s)) hH rfl rfl ?_ ?_
  · have hw : IntKind.wrap .i64 (at_ + 1) = at_ + 1 := i64_in _ (by omega)
    refine call144 (by simp) ?_
    simp only [Try.results144, Try.ntmps144, Try.f144, Option.getD_some, pl144]
    by_cases hlt : at_ < code.length
    · obtain ⟨b, hb⟩ : ∃ b, code[at_.toNat]? = some b := ⟨_, List.getElem?_eq_getElem (by omega)⟩
      have hb2 := hcode b (List.mem_of_getElem? hb)
      have hle : at_ + 1 ≤ code.length := by omega
      have hwb : IntKind.wrap .i64 b = b := i64_in _ (by omega)
      simp only [go_sem, cur, eB, hlt, hb, h0, hw, hwb, hle, decide_true]
      exact ⟨b, _, rfl, hb2.1, hb2.2, rfl⟩
    · have hle : ¬ at_ + 1 ≤ code.length := by omega
      simp only [go_sem, cur, eB, hlt, h0, hw, hle, decide_false]
      refine ⟨_, _, rfl, ?_, ?_, rfl⟩
      all_goals
        rw [i64_in]
        · first | exact (and_255 _).1 | exact (and_255 _).2
        · have h := and_255 (Int.fdiv (IntKind.u64.wrap (IntKind.u64.wrap (IntKind.u64.wrap (seed * 6364136223846793005) + IntKind.u64.wrap 0) + 1442695040888963407)) (2 ^ min (Int.toNat 40) 64))
          exact ⟨Int.le_trans (by decide) h.1, Int.le_trans h.2 (by decide)⟩
  · rintro r' H' ⟨n, s, rfl, h2, h3, h4⟩
    exact ⟨_, _, _, _, _, h4, rfl, .cl rfl, rfl, hK n s h2 h3⟩
theorem tmod_in (x n : Int) (hx : 0 ≤ x) (hn : 0 < n) : 0 ≤ x.tmod n ∧ x.tmod n < n := ⟨Int.tmod_nonneg _ hx, Int.tmod_lt_of_pos _ hn⟩
/-- What pick yields. -/
theorem c_pick {id v : Nat} {H : Heap} {K : AV → Heap → Prop} {code : List Int} (hcode : ∀ b ∈ code, 0 ≤ b ∧ b ≤ 255) {at_ seed n : Int} (h0 : 0 ≤ at_) (h1 : at_ ≤ 100000000) (hn : n ≤ 10000000) (hH : H id = .cells v 102 1 (cur code at_ seed))
    (hK : ∀ r a s, 0 ≤ r → (0 < n → r < n) → (n ≤ 0 → r = 0) → at_ ≤ a → a ≤ at_ + 2 → K (I64 r) (upd H id (.cells v 102 1 (cur code a s)))) : ACall Try.prog 72 [.ptr id v 0, I64 n] H K := by
  refine ACall.ptr1 (xs := [I64 n]) (R := fun r H' => ∃ r0 a s, r = I64 r0 ∧ 0 ≤ r0 ∧ (0 < n → r0 < n) ∧ (n ≤ 0 → r0 = 0) ∧ at_ ≤ a ∧ a ≤ at_ + 2 ∧ H' 1000000 = .cells v 102 1 (cur code a s)) hH rfl rfl ?_ ?_
  · refine call72 (by simp) ?_
    simp only [Try.results72, Try.ntmps72, Try.f72, Option.getD_some, pl72]
    by_cases hlt : n ≤ 1
    · simp only [go_sem, hlt, decide_true]
      exact ⟨0, at_, seed, rfl, by omega, by omega, by omega, by omega, by omega, rfl⟩
    · simp only [go_sem, hlt, decide_false]
      refine c_next hcode h0 (by omega) rfl fun r s hr hr' => ?_
      by_cases hlt2 : 200 < n
      · simp only [go_sem, hlt2, decide_true]
        refine c_next (at_ := at_ + 1) (seed := s) hcode (by omega) (by omega) rfl fun r2 s2 hr2 hr2' => ?_
        have hw : IntKind.wrap .i64 (r * 256) = r * 256 := i64_in _ (by omega)
        have hw2 : IntKind.wrap .i64 (r * 256 + r2) = r * 256 + r2 := i64_in _ (by omega)
        simp only [go_sem, hw, hw2]
        have h5 := tmod_in (r * 256 + r2) n (by omega) (by omega)
        exact ⟨by omega, _, _, _, rfl, h5.1, fun _ => h5.2, by omega, by omega, by omega, rfl⟩
      · simp only [go_sem, hlt2, decide_false]
        have h5 := tmod_in r n (by omega) (by omega)
        exact ⟨by omega, _, _, _, rfl, h5.1, fun _ => h5.2, by omega, by omega, by omega, rfl⟩
  · rintro r' H' ⟨r0, a, s, rfl, h2, h3, h4, h5, h6, h7⟩
    exact ⟨_, _, _, _, _, h7, rfl, .cl rfl, rfl, hK r0 a s h2 h3 h4 h5 h6⟩
def eI (l : List Int) : AV := .sl 1 (l.map I64)
/-- What 'wires' does, inside. -/
theorem k_wires {v : Nat} {H : Heap} {code : List Int} (hcode : ∀ b ∈ code, 0 ≤ b ∧ b ≤ 255) {at_ seed n many : Int} (h0 : 0 ≤ at_) (h1 : at_ ≤ 10000000) (hn : n ≤ 10000000) (hm : 0 ≤ many) (hm2 : many ≤ 10000) (hH : H 1000000 = .cells v 102 1 (cur code at_ seed)) :
    ACall Try.prog 75 [.ptr 1000000 v 0, I64 n, I64 many] H (fun r H' => ∃ (l : List Int) (a s : Int) (d ver : Nat), d < 1000000 ∧ r = .ref d ver 0 l.length ∧ H' d = .cells ver 3 1 (l.map I64) ∧ l.length = many.toNat ∧ (∀ x ∈ l, 0 ≤ x ∧ (0 < n → x < n)) ∧ at_ ≤ a ∧ a ≤ at_ + 2 * many ∧ H' 1000000 = .cells v 102 1 (cur code a s)) := by
  refine call75 (by simp) ?_
  simp only [Try.results75, Try.ntmps75, Try.f75, Option.getD_some, pl75]
  simp only [go_sem]
  refine ALoop.thaw 999 3 1 (t := 7) (by simp only [go_sem]) ?_
  refine ALoop.intro (pl := pl75) (fun k env H => ∃ (l : List Int) (a s : Int) (ver : Nat), env 0 = .ptr 1000000 v 0 ∧ env 1 = I64 n ∧ env 2 = I64 k ∧ env 7 = .ref 999 ver 0 l.length ∧ H 999 = .cells ver 3 1 (l.map I64) ∧
    l.length + k = many.toNat ∧ (∀ x ∈ l, 0 ≤ x ∧ (0 < n → x < n)) ∧ at_ ≤ a ∧ a ≤ at_ + 2 * l.length ∧ H 1000000 = .cells v 102 1 (cur code a s)) many.toNat (by kernel_rfl) ?_ ?_
  · have e : (many.toNat : Int) = many := by omega
    simp only [go_sem, e]
    exact ⟨[], at_, seed, (H 999).ver + 1, by simp [hH]⟩
  · rintro k env H ⟨l, a, s, ver, e0, e1, e2, e7, hb, hk, hx, ha1, ha2, hc⟩
    by_cases hz : 0 < (k : Int)
    · simp only [go_sem, e0, e1, e2, e7, hz, decide_true]
      refine c_pick hcode (by omega) (by omega) hn hc fun r a' s' hr1 hr2 hr3 ha3 ha4 => ?_
      have hw : IntKind.wrap .i64 ((k : Int) - 1) = k - 1 := i64_in _ (by omega)
      simp only [go_sem, e0, e1, e2, e7, hb, hw, hc]
      refine ⟨by omega, k - 1, by omega, l ++ [r], a', s', ver + 1, by congr 1; omega, by simp, by rw [take_map]; simp, by simp; omega, ?_, by omega, by simp; omega, rfl⟩
      intro x hx'
      rcases List.mem_append.1 hx' with h | h
      · exact hx x h
      · rw [List.mem_singleton.1 h]; exact ⟨hr1, hr2⟩
    · simp only [go_sem, e0, e1, e2, e7, hz, decide_false]
      exact ⟨l, a, s, 999, ver, by omega, rfl, hb, by omega, hx, ha1, by omega, hc⟩
theorem resI {L : Nat → Bool} {H : Heap} {id ver T : Nat} {l : List Int} (hL : L id = false) (h : H id = .cells ver T 1 (l.map I64)) : Res L anyAV H (.ref id ver 0 l.length) (eI l) := by
  have := Res.slice (L := L) (H := H) (id := id) (ver := ver) (T := T) (sz := 1) (cs := l.map I64) (es := l.map I64) hL h (flat_map1 (fun _ => rfl) l).symm (by simp [flat]) (by simp [flat, AV.froz])
  simpa [eI] using this
/-- 'wires', its result to be read. -/
theorem c_wires {id v : Nat} {H : Heap} {K : AV → Heap → Prop} {code : List Int} (hcode : ∀ b ∈ code, 0 ≤ b ∧ b ≤ 255) {at_ seed n many : Int} (h0 : 0 ≤ at_) (h1 : at_ ≤ 10000000) (hn : n ≤ 10000000) (hm : 0 ≤ many) (hm2 : many ≤ 10000) (hH : H id = .cells v 102 1 (cur code at_ seed))
    (hK : ∀ (l : List Int) a s, l.length = many.toNat → (∀ x ∈ l, 0 ≤ x ∧ (0 < n → x < n)) → at_ ≤ a → a ≤ at_ + 2 * many → K (eI l) (upd H id (.cells v 102 1 (cur code a s)))) : ACall Try.prog 75 [.ptr id v 0, I64 n, I64 many] H K := by
  refine ACall.ptr1 (xs := [I64 n, I64 many]) hH rfl rfl (k_wires hcode h0 h1 hn hm hm2 rfl) ?_
  rintro r' H' ⟨l, a, s, d, ver, hd, rfl, h2, h3, h4, h5, h6, h7⟩
  exact ⟨_, _, _, _, eI l, h7, rfl, resI (by simp; omega) h2, rfl, hK l a s h3 h4 h5 h6⟩
/-- 'wires', its result ours. -/
theorem o_wires {id v : Nat} {H : Heap} {K : AV → Heap → Prop} (d : Nat) {v0 : Nat} (hd : H d = .gone v0) {code : List Int} (hcode : ∀ b ∈ code, 0 ≤ b ∧ b ≤ 255) {at_ seed n many : Int} (h0 : 0 ≤ at_) (h1 : at_ ≤ 10000000) (hn : n ≤ 10000000) (hm : 0 ≤ many) (hm2 : many ≤ 10000) (hH : H id = .cells v 102 1 (cur code at_ seed))
    (hK : ∀ (l : List Int) a s ver, l.length = many.toNat → (∀ x ∈ l, 0 ≤ x ∧ (0 < n → x < n)) → at_ ≤ a → a ≤ at_ + 2 * many → K (.ref d ver 0 l.length) (upd (upd H id (.cells v 102 1 (cur code a s))) d (.cells ver 3 1 (l.map I64)))) : ACall Try.prog 75 [.ptr id v 0, I64 n, I64 many] H K := by
  refine ACall.ptr1own d hd (xs := [I64 n, I64 many]) hH rfl rfl (k_wires hcode h0 h1 hn hm hm2 rfl) ?_
  rintro r' H' ⟨l, a, s, d', ver, hd, rfl, h2, h3, h4, h5, h6, h7⟩
  exact ⟨_, _, _, _, _, _, _, _, _, _, rfl, hd, h7, rfl, h2, by simp [closedL], fun ver => hK l a s ver h3 h4 h5 h6⟩
end Go.Proofs.Ytjkcoldpecdajaa

set_option linter.unusedVariables false
set_option linter.unusedSimpArgs false
namespace Go.Proofs.Ytjkcoldpecdajaa
open Go.Abs Go.IntWalk
set_option maxRecDepth 100000
set_option pp.deepTerms true
abbrev Gate := Int × Int × Int
def cG (g : Gate) : List AV := [I64 g.1, I64 g.2.1, I64 g.2.2]
def eG (g : Gate) : AV := .agg (cG g)
abbrev Circ := Int × List Gate × List Int
def eGs (gs : List Gate) : AV := .sl 3 (gs.map eG)
def eC (c : Circ) : AV := .agg [I64 c.1, eGs c.2.1, eI c.2.2]
theorem cG_len (g : Gate) : (cG g).length = 3 := rfl
theorem flat_eG (gs : List Gate) : (gs.map eG).flatMap flat = gs.flatMap cG := by
  induction gs with
  | nil => rfl
  | cons g gs ih => rw [List.map_cons, List.flatMap_cons, List.flatMap_cons, ih]; rfl
theorem frzG {H : Heap} {β : Nat → Bool} {id ver T : Nat} {gs : List Gate} (hβ : β id = true) (h : H id = .cells ver T 3 (gs.flatMap cG)) : FRes H β anyAV (.ref id ver 0 gs.length) (eGs gs) := by
  have := FRes.slice (β := β) (pre := []) (post := []) (es := gs.map eG) (off := 0) hβ h (by simp [flat_eG]) rfl (by intro e he; obtain ⟨g, _, rfl⟩ := List.mem_map.1 he; rfl) (by intro e he x hx; obtain ⟨g, _, rfl⟩ := List.mem_map.1 he; simp [eG, flat, cG] at hx; rcases hx with rfl | rfl | rfl <;> rfl)
  simpa [eGs] using this
theorem frzI {H : Heap} {β : Nat → Bool} {id ver T : Nat} {l : List Int} (hβ : β id = true) (h : H id = .cells ver T 1 (l.map I64)) : FRes H β anyAV (.ref id ver 0 l.length) (eI l) := by
  have := FRes.slice (β := β) (pre := []) (post := []) (es := l.map I64) (off := 0) hβ h (by simp [flat_map1 (f := I64) (fun _ => rfl) l]) rfl (by simp [flat]) (by simp [flat, AV.froz])
  simpa [eI] using this
/-- How many wires a circuit has. -/
theorem c_w4 {a : AV} {c : Circ} {H : Heap} {K : AV → Heap → Prop} (hv : View H (fun _ => false) id (fun _ => true) a (eC c)) (h1 : -1000 ≤ c.1) (h2 : c.1 + c.2.1.length ≤ 1000000000000) (hK : K (I64 (c.1 + c.2.1.length)) H) : ACall Try.prog 76 [a] H K := by
  refine ACall.peek (args' := [eC c]) (R := fun r _ => r = I64 (c.1 + c.2.1.length)) ?_ (.cons _ _ _ _ hv .nil) ?_
  · refine call76 (by simp) ?_
    simp only [Try.results76, Try.ntmps76, Try.f76, Option.getD_some, pl76]
    have hw : IntKind.wrap .i64 (c.1 + c.2.1.length) = c.1 + c.2.1.length := i64_in _ (by omega)
    simp only [go_sem, eC, eGs, eI, hw]
  · rintro r H' rfl
    exact ⟨rfl, hK⟩
theorem c_among {id v k ver T : Nat} {H : Heap} {K : AV → Heap → Prop} (hk : k < 1000000) (hkid : k ≠ id) {l : List Int} (hl : 0 < l.length) (hl2 : l.length ≤ 1000) (hb : H k = .cells ver T 1 (l.map I64)) {code : List Int} (hcode : ∀ b ∈ code, 0 ≤ b ∧ b ≤ 255) {at_ seed : Int} (h0 : 0 ≤ at_) (h1 : at_ ≤ 10000000) (hH : H id = .cells v 102 1 (cur code at_ seed))
    (hK : ∀ x a s, x ∈ l → at_ ≤ a → a ≤ at_ + 2 → K (I64 x) (upd (upd H k (.gone ((H k).ver + 1))) id (.cells v 102 1 (cur code a s)))) : ACall Try.prog 74 [.ptr id v 0, .ref k ver 0 l.length] H K := by
  refine ACall.ptr1give k hk hkid (xs' := [eI l]) (R := fun r H' => ∃ x a s, r = I64 x ∧ x ∈ l ∧ at_ ≤ a ∧ a ≤ at_ + 2 ∧ H' 1000000 = .cells v 102 1 (cur code a s)) hH rfl (.cons _ _ _ _ (.frz _ _ (frzI (by simp) hb)) .nil) ?_ ?_
  · refine call74 (by simp) ?_
    simp only [Try.results74, Try.ntmps74, Try.f74, Option.getD_some, pl74]
    simp only [go_sem, eI]
    refine c_pick (at_ := at_) (seed := seed) (code := code) hcode (by omega) (by omega) (by omega) (by simp only [go_sem]) fun r a s hr1 hr2 hr3 ha1 ha2 => ?_
    obtain ⟨x, hx⟩ : ∃ x, l[r.toNat]? = some x := ⟨_, List.getElem?_eq_getElem (by have := hr2 (by omega); omega)⟩
    simp only [go_sem, hr1, hx]
    exact ⟨x, a, s, rfl, List.mem_of_getElem? hx, ha1, ha2, rfl⟩
  · rintro r' H' ⟨x, a, s, rfl, h2, h3, h4, h5⟩
    exact ⟨_, _, _, _, I64 x, h5, rfl, .cl rfl, rfl, hK x a s h2 h3 h4⟩
theorem c_circuit {id v : Nat} {H : Heap} {K : AV → Heap → Prop} {code : List Int} (hcode : ∀ b ∈ code, 0 ≤ b ∧ b ≤ 255) {at_ seed : Int} (h0 : 0 ≤ at_) (h1 : at_ ≤ 1000000) (hH : H id = .cells v 102 1 (cur code at_ seed))
    (hK : ∀ (c : Circ) a s, -1 ≤ c.1 → c.1 ≤ 17 → c.2.1.length ≤ 400 → c.2.2.length ≤ 10 → at_ ≤ a → a ≤ at_ + 2000 → K (eC c) (upd H id (.cells v 102 1 (cur code a s)))) : ACall Try.prog 71 [.ptr id v 0] H K := by
  refine ACall.ptr1 (xs := []) (R := fun r H' => ∃ (ins : Int) (gr or_ : AV) (c : Circ) (a s : Int), r = .agg [I64 c.1, gr, or_] ∧ Res (fun i => i == 1000000) anyAV H' gr (eGs c.2.1) ∧ Res (fun i => i == 1000000) anyAV H' or_ (eI c.2.2) ∧ -1 ≤ c.1 ∧ c.1 ≤ 17 ∧ c.2.1.length ≤ 400 ∧ c.2.2.length ≤ 10 ∧ at_ ≤ a ∧ a ≤ at_ + 2000 ∧ H' 1000000 = .cells v 102 1 (cur code a s)) hH rfl rfl ?_ ?_
  · refine call71 (by simp) ?_
    simp only [Try.results71, Try.ntmps71, Try.f71, Option.getD_some, pl71]
    simp only [go_sem]
    refine c_pick (at_ := at_) (seed := seed) (n := 8) (code := code) hcode (by omega) (by omega) (by omega) (by simp only [go_sem]) fun r a1 s1 hr1 hr2 hr3 ha1 ha2 => ?_
    have hw : IntKind.wrap .i64 (1 + r) = 1 + r := i64_in _ (by omega)
    simp only [go_sem, hw]
    refine c_pick (at_ := a1) (seed := s1) (n := 20) (code := code) hcode (by omega) (by omega) (by omega) (by simp only [go_sem]) fun r2 a2 s2 hr4 hr5 hr6 ha3 ha4 => ?_
    simp only [go_sem]
    refine ALoop.thawCell 3 1 998 119 3 (by simp only [go_sem]; rfl) (by rfl) (by omega) ?_
    simp only [go_sem]
    refine ALoop.intro (pl := pl71) (fun k env H => ∃ (gs : List Gate) (a s : Int) (gv v2 v3 : Nat), env 0 = .ptr 1000000 v 0 ∧ env 2 = .ptr 2 v2 0 ∧ env 3 = .ptr 3 v3 0 ∧ env 4 = I64 k ∧
      H 2 = .cells v2 27 1 [I64 0, .nil, .nil] ∧ H 3 = .cells v3 27 1 [I64 (1 + r), .ref 998 gv 0 gs.length, .nil] ∧ H 998 = .cells gv 119 3 (gs.flatMap cG) ∧ H 500 = .gone 0 ∧
      gs.length + k = r2.toNat ∧ at_ ≤ a ∧ a ≤ at_ + 6 + 10 * gs.length ∧ H 1000000 = .cells v 102 1 (cur code a s)) r2.toNat (by kernel_rfl) ?_ ?_
    · have e : (r2.toNat : Int) = r2 := by omega
      simp only [go_sem, e]
      refine ⟨[], a2, s2, 1, 1, 1, rfl, rfl, rfl, rfl, rfl, rfl, by simp, by omega, by simp; omega, rfl⟩
    · rintro k env H ⟨gs, a, s, gv, v2, v3, e0, e2, e3, e4, h2, h3, hg, hfree, hk, ha, hb, hc⟩
      by_cases hz : 0 < (k : Int)
      · simp only [go_sem, e0, e2, e3, e4, hz, decide_true]
        refine c_pick (n := 5) hcode (by omega) (by omega) (by omega) hc fun q a' s' hq1 hq2 hq3 ha3 ha4 => ?_
        have hw : IntKind.wrap .i64 ((k : Int) - 1) = k - 1 := i64_in _ (by omega)
        have hw2 : IntKind.wrap .i64 (1 + q) = 1 + q := i64_in _ (by omega)
        by_cases hq : q = 0
        · subst hq
          simp only [Int.add_zero] at hw2
          simp only [go_sem, Int.add_zero, hw2, decide_true, e0, e2, e3, e4]
          refine c_pick (n := 2) (at_ := a') (seed := s') (code := code) hcode (by omega) (by omega) (by omega) (by simp only [go_sem]) fun q2 a2 s2 hq4 hq5 hq6 ha5 ha6 => ?_
          simp only [go_sem, e0, e2, e3, e4, h2, h3, hg, hc, hw, Int.reduceLT, decide_false]
          refine ⟨by rw [len_flat cG_len]; omega, by omega, k - 1, by omega, gs ++ [(1, q2, 0)], a2, s2, gv + 1, v2, v3, ?_⟩
          exact ⟨rfl, rfl, by congr 1; omega, rfl, by simp, by rw [take_flat cG_len]; simp [cG], hfree, by simp; omega, by omega, by simp; omega, rfl⟩
        · have hq' : ¬ 1 + q = 1 := by omega
          simp only [go_sem, hw2, hq', decide_false, e0, e2, e3, e4, h2, h3, hg, hc]
          refine c_w4 (c := (1 + r, gs, [])) (.agg3 (.cl rfl) (.frz _ _ (frzG rfl (T := 119) (by simp only [go_sem]; exact hg))) (.nil 1)) (by simp only; omega) (by simp only; omega) ?_
          simp only [go_sem]
          refine c_pick (at_ := a') (seed := s') (code := code) hcode (by omega) (by omega) (by omega) (by simp only [go_sem]) fun q2 a2 s2 hq4 hq5 hq6 ha5 ha6 => ?_
          by_cases hq2 : 2 < 1 + q
          · simp only [go_sem, hq2, decide_true, e0, e2, e3, e4, h2, h3, hg, hc]
            refine c_w4 (c := (1 + r, gs, [])) (.agg3 (.cl rfl) (.frz _ _ (frzG rfl (T := 119) (by simp only [go_sem]; exact hg))) (.nil 1)) (by simp only; omega) (by simp only; omega) ?_
            simp only [go_sem]
            refine c_pick (at_ := a2) (seed := s2) (code := code) hcode (by omega) (by omega) (by omega) (by simp only [go_sem]) fun q3 a3 s3 hq7 hq8 hq9 ha7 ha8 => ?_
            simp only [go_sem, e0, e2, e3, e4, h2, h3, hg, hc, hw]
            refine ⟨by rw [len_flat cG_len]; omega, by omega, k - 1, by omega, gs ++ [(1 + q, q2, q3)], a3, s3, gv + 1, v2, v3, ?_⟩
            exact ⟨rfl, rfl, by congr 1; omega, rfl, by simp, by rw [take_flat cG_len]; simp [cG], hfree, by simp; omega, by omega, by simp; omega, rfl⟩
          · simp only [go_sem, hq2, decide_false, e0, e2, e3, e4, h2, h3, hg, hc, hw]
            refine ⟨by rw [len_flat cG_len]; omega, by omega, k - 1, by omega, gs ++ [(1 + q, q2, 0)], a2, s2, gv + 1, v2, v3, ?_⟩
            exact ⟨rfl, rfl, by congr 1; omega, rfl, by simp, by rw [take_flat cG_len]; simp [cG], hfree, by simp; omega, by omega, by simp; omega, rfl⟩
      · simp only [go_sem, e0, e2, e3, e4, hz, decide_false, h2, h3, hg, hc]
        refine c_w4 (c := (1 + r, gs, [])) (.agg3 (.cl rfl) (.frz _ _ (frzG rfl (T := 119) hg)) (.nil 1)) (by simp only; omega) (by simp only; omega) ?_
        simp only [go_sem, e0, e2, e3, h2, h3, hg]
        refine c_pick (at_ := a) (seed := s) (code := code) hcode (by omega) (by omega) (by omega) hc fun q a1 s1 hq1 hq2 hq3 ha3 ha4 => ?_
        simp only [go_sem, e0, e2, e3]
        refine o_wires 500 (v0 := 0) (by simp only [go_sem]; exact hfree) (at_ := a1) (seed := s1) (code := code) hcode (by omega) (by omega) (by omega) (by omega) (by omega) (by simp only [go_sem]) fun os a2 s2 ov ho1 ho2 ha5 ha6 => ?_
        simp only [go_sem, e0, e2, e3, h2, h3, hg]
        refine c_pick (at_ := a2) (seed := s2) (code := code) hcode (by omega) (by omega) (by omega) (by simp only [go_sem]) fun q3 a3 s3 hq4 hq5 hq6 ha7 ha8 => ?_
        by_cases hz0 : q3 = 0
        · subst hz0
          simp only [go_sem, e0, e2, e3, h2, h3, hg, decide_true]
          refine c_w4 (c := (1 + r, gs, os)) (.agg3 (.cl rfl) (.frz _ _ (frzG rfl (T := 119) (by simp only [go_sem]; exact hg))) (.frz _ _ (frzI rfl (ver := ov) (T := 3) (by simp only [go_sem])))) (by simp only; omega) (by simp only; omega) ?_
          simp only [go_sem, e0, e2, e3, h2, h3, hg]
          refine ⟨by omega, 0, _, _, (1 + r, gs, os ++ [1 + r + gs.length]), a3, s3, rfl, (.frz _ _ (frzG (by rfl) (T := 119) (by simp only [go_sem]; exact hg))), ?_, by simp only; omega, by simp only; omega, by simp only; omega, by simp; omega, by omega, by omega, rfl⟩
          have := resI (L := fun i => i == 1000000) (l := os ++ [1 + r + gs.length]) (id := 500) (ver := ov + 1) (T := 3) (H := ?_) rfl ?_
          · simpa using this
          · simp only [go_sem]
            rw [take_map]; simp
        · by_cases hz1 : q3 = 1
          · subst hz1
            simp only [go_sem, e0, e2, e3, h2, h3, hg, decide_true, hz0, decide_false]
            refine c_among (k := 66) (by omega) (by omega) (l := [-1, 0, 16, 17]) (T := 3) (by simp) (by simp) (by simp only [go_sem]) (at_ := a3) (seed := s3) (code := code) hcode (by omega) (by omega) (by simp only [go_sem]) fun x a4 s4 hx ha9 ha10 => ?_
            have hx' : -1 ≤ x ∧ x ≤ 17 := by simp at hx; omega
            simp only [go_sem, e0, e2, e3, h2, h3, hg]
            exact ⟨0, _, _, (x, gs, os), a4, s4, rfl, (.frz _ _ (frzG (by rfl) (T := 119) (by simp only [go_sem]; exact hg))), (.frz _ _ (frzI (by rfl) (ver := ov) (T := 3) (by simp only [go_sem]))), hx'.1, hx'.2, by simp only; omega, by simp only; omega, by omega, by omega, rfl⟩
          · by_cases hz2 : q3 = 2
            · subst hz2
              simp only [go_sem, e0, e2, e3, h2, h3, hg, decide_true, hz0, hz1, decide_false]
              refine ALoop.intro (pl := pl71) (fun k env H => ∃ (gs : List Gate) (a s : Int) (gv v2 v3 : Nat), env 0 = .ptr 1000000 v 0 ∧ env 2 = .ptr 2 v2 0 ∧ env 3 = .ptr 3 v3 0 ∧
                H 2 = .cells v2 27 1 [I64 0, .nil, .nil] ∧ H 3 = .cells v3 27 1 [I64 (1 + r), .ref 998 gv 0 gs.length, .ref 500 ov 0 os.length] ∧ H 998 = .cells gv 119 3 (gs.flatMap cG) ∧ H 500 = .cells ov 3 1 (os.map I64) ∧
                gs.length + k = 301 ∧ at_ ≤ a ∧ a ≤ at_ + 500 + 2 * gs.length ∧ H 1000000 = .cells v 102 1 (cur code a s)) (301 - gs.length) (by kernel_rfl) ?_ ?_
              · simp only [go_sem, e0, e2, e3, h2, hg]
                exact ⟨gs, a3, s3, gv, v2, v3, rfl, rfl, rfl, rfl, rfl, by omega, by omega, by omega, rfl⟩
              · clear hg h2 h3 e0 e2 e3 e4
                rintro k env H ⟨gs, a, s, gv, v2, v3, e0, e2, e3, h2, h3, hg, ho, hk, ha, hb, hc⟩
                simp only [go_sem, pl71, e0, e2, e3, h3, hg]
                refine c_pick (at_ := a) (seed := s) (code := code) hcode (by omega) (by omega) (by omega) hc fun q4 a4 s4 hq7 hq8 hq9 ha9 ha10 => ?_
                have hw : IntKind.wrap .i64 (300 + q4) = 300 + q4 := i64_in _ (by omega)
                by_cases hlt : (gs.length : Int) < 300 + q4
                · simp only [go_sem, e0, e2, e3, h3, h2, hg, hw, hlt, decide_true]
                  refine ⟨by rw [len_flat cG_len]; omega, by omega, k - 1, by omega, gs ++ [(2, 0, 0)], a4, s4, gv + 1, v2, v3, ?_⟩
                  exact ⟨rfl, rfl, rfl, by simp, by rw [take_flat cG_len]; simp [cG], ho, by simp; omega, by omega, by simp; omega, rfl⟩
                · simp only [go_sem, e0, e2, e3, h3, h2, hg, hw, hlt, decide_false]
                  exact ⟨0, _, _, (1 + r, gs, os), a4, s4, rfl, (.frz _ _ (frzG (by rfl) (T := 119) (by simp only [go_sem]; exact hg))), (.frz _ _ (frzI (by rfl) (ver := ov) (T := 3) (by simp only [go_sem]; exact ho))), by simp only; omega, by simp only; omega, by simp only; omega, by simp only; omega, by omega, by omega, rfl⟩
            · simp only [go_sem, e0, e2, e3, h2, h3, hg, hz0, hz1, hz2, decide_false]
              exact ⟨0, _, _, (1 + r, gs, os), a3, s3, rfl, (.frz _ _ (frzG (by rfl) (T := 119) (by simp only [go_sem]; exact hg))), (.frz _ _ (frzI (by rfl) (ver := ov) (T := 3) (by simp only [go_sem]))), by simp only; omega, by simp only; omega, by simp only; omega, by simp only; omega, by omega, by omega, rfl⟩
  · rintro r' H' ⟨ins, gr, or_, c, a, s, rfl, h2, h3, h4, h5, h6, h7, h8, h9, h10⟩
    exact ⟨_, _, _, _, eC c, h10, rfl, .agg3 (.cl rfl) h2 h3, rfl, hK c a s h4 h5 h6 h7 h8 h9⟩
end Go.Proofs.Ytjkcoldpecdajaa

set_option linter.unusedVariables false
set_option linter.unusedSimpArgs false
namespace Go.Proofs.Ytjkcoldpecdajaa
open Go.Abs Go.IntWalk
set_option maxRecDepth 100000
theorem c_one {id v : Nat} {H : Heap} {K : AV → Heap → Prop} {code : List Int} (hcode : ∀ b ∈ code, 0 ≤ b ∧ b ≤ 255) {at_ seed n : Int} (h0 : 0 ≤ at_) (h1 : at_ ≤ 100000000) (hn : n ≤ 10000000) (hH : H id = .cells v 102 1 (cur code at_ seed))
    (hK : ∀ b a s, at_ ≤ a → a ≤ at_ + 2 → K (.bool b) (upd H id (.cells v 102 1 (cur code a s)))) : ACall Try.prog 73 [.ptr id v 0, I64 n] H K := by
  refine ACall.ptr1 (xs := [I64 n]) (R := fun r H' => ∃ b a s, r = .bool b ∧ at_ ≤ a ∧ a ≤ at_ + 2 ∧ H' 1000000 = .cells v 102 1 (cur code a s)) hH rfl rfl ?_ ?_
  · refine call73 (by simp) ?_
    simp only [Try.results73, Try.ntmps73, Try.f73, Option.getD_some, pl73]
    simp only [go_sem]
    refine c_pick (at_ := at_) (seed := seed) (code := code) hcode (by omega) (by omega) (by omega) (by simp only [go_sem]) fun r a s hr1 hr2 hr3 ha1 ha2 => ?_
    simp only [go_sem]
    exact ⟨_, a, s, rfl, ha1, ha2, rfl⟩
  · rintro r' H' ⟨b, a, s, rfl, h2, h3, h4⟩
    exact ⟨_, _, _, _, _, h4, rfl, .cl rfl, rfl, hK b a s h2 h3⟩
/-- What is drawn for a sum. -/
def DrawnOk (c : Circ) (a b : List Int) (carry : Int) : Prop := -1 ≤ c.1 ∧ c.1 ≤ 17 ∧ c.2.1.length ≤ 400 ∧ c.2.2.length ≤ 10 ∧ a.length = b.length ∧ a.length ≤ 17 ∧ (∀ x ∈ a, 0 ≤ x ∧ x ≤ 1000) ∧ (∀ x ∈ b, 0 ≤ x ∧ x ≤ 1000) ∧ 0 ≤ carry ∧ carry ≤ 1000
theorem c_draw {H : Heap} {K : AV → Heap → Prop} {code : List Int} (hcode : ∀ b ∈ code, 0 ≤ b ∧ b ≤ 255)
    (hK : ∀ c a b carry, -1 ≤ c.1 → c.1 ≤ 17 → c.2.1.length ≤ 400 → c.2.2.length ≤ 10 → a.length = b.length → a.length ≤ 17 → K (.tup [eC c, eI a, eI b, I64 carry]) H) : ACall Try.prog 13 [eB code] H K := by
  refine ACall.pure (R := fun r H' => ∃ (c : Circ) (a b : List Int) (carry : Int), r = .tup [eC c, eI a, eI b, I64 carry] ∧ -1 ≤ c.1 ∧ c.1 ≤ 17 ∧ c.2.1.length ≤ 400 ∧ c.2.2.length ≤ 10 ∧ a.length = b.length ∧ a.length ≤ 17) rfl ?_ ?_
  · refine call13 (by simp) ?_
    simp only [Try.results13, Try.ntmps13, Try.f13, Option.getD_some, pl13]
    simp only [go_sem, eB]
    refine c_circuit (at_ := 0) (seed := 0) (code := code) hcode (by omega) (by omega) (by simp only [go_sem]; rfl) fun c a1 s1 hc1 hc2 hc3 hc4 ha1 ha2 => ?_
    simp only [go_sem, eC, eGs, eI]
    refine c_pick (at_ := a1) (seed := s1) (code := code) hcode (by omega) (by omega) (by omega) (by simp only [go_sem]) fun n a2 s2 hn1 hn2 hn3 ha3 ha4 => ?_
    simp only [go_sem]
    refine c_one (at_ := a2) (seed := s2) (code := code) hcode (by omega) (by omega) (by omega) (by simp only [go_sem]) fun b a3 s3 ha5 ha6 => ?_
    have hA : 0 ≤ a3 ∧ a3 ≤ 4000 := by omega
    have hN : 0 ≤ n ∧ n ≤ 17 := by have := hn2 (by omega); omega
    cases b
    case' true =>
      simp only [go_sem]
      refine c_among (k := 19) (by omega) (by omega) (l := [16, 17]) (T := 3) (by simp) (by simp) (by simp only [go_sem]) (at_ := a3) (seed := s3) (code := code) hcode (by omega) (by omega) (by simp only [go_sem]) fun n a3 s3 hx ha7 ha8 => ?_
      have hA : 0 ≤ a3 ∧ a3 ≤ 5000 := by omega
      have hN : 0 ≤ n ∧ n ≤ 17 := by simp at hx; omega
    all_goals
      simp only [go_sem]
      refine c_w4 (c := c) (.cl rfl) (by omega) (by omega) ?_
      simp only [go_sem]
      refine c_wires (at_ := a3) (seed := s3) (code := code) hcode (by omega) (by omega) (by omega) (by omega) (by omega) (by simp only [go_sem]) fun la a4 s4 hl1 hl2 ha9 ha10 => ?_
      simp only [go_sem, eI]
      refine c_w4 (c := c) (.cl rfl) (by omega) (by omega) ?_
      simp only [go_sem]
      refine c_wires (at_ := a4) (seed := s4) (code := code) hcode (by omega) (by omega) (by omega) (by omega) (by omega) (by simp only [go_sem]) fun lb a5 s5 hl3 hl4 ha11 ha12 => ?_
      simp only [go_sem, eI]
      refine c_w4 (c := c) (.cl rfl) (by omega) (by omega) ?_
      have hw : IntKind.wrap .i64 (c.1 + c.2.1.length + 1) = c.1 + c.2.1.length + 1 := i64_in _ (by omega)
      simp only [go_sem, hw]
      refine c_pick (at_ := a5) (seed := s5) (code := code) hcode (by omega) (by omega) (by omega) (by simp only [go_sem]) fun q a6 s6 hq1 hq2 hq3 ha13 ha14 => ?_
      simp only [go_sem]
      exact ⟨c, la, lb, q, rfl, hc1, hc2, hc3, hc4, by omega, by omega⟩
  · rintro r' H' ⟨c, a, b, carry, rfl, h⟩
    exact ⟨_, .cl rfl, rfl, hK c a b carry h.1 h.2.1 h.2.2.1 h.2.2.2.1 h.2.2.2.2.1 h.2.2.2.2.2⟩
end Go.Proofs.Ytjkcoldpecdajaa

set_option linter.unusedVariables false
set_option linter.unusedSimpArgs false
namespace Go.Proofs.Ytjkcoldpecdajaa
open Go.Abs Go.IntWalk
set_option maxRecDepth 100000
/-- Two lists that agree up to a place, and differ there or end. -/
theorem take_step {α : Type} {a b : List α} {k : Nat} {x y : α} (h : a.take k = b.take k) (hx : a[k]? = some x) (hy : b[k]? = some y) (e : x = y) : a.take (k + 1) = b.take (k + 1) := by
  rw [List.take_add_one, List.take_add_one, h, hx, hy, e]
theorem c_sameInts {a b : List Int} {H : Heap} {K : AV → Heap → Prop} (hl : a.length ≤ 1000000000) (hl2 : b.length ≤ 1000000000) (hK : K (.bool (decide (a = b))) H) : ACall Try.prog 17 [eI a, eI b] H K := by
  refine ACall.pure (R := fun r _ => r = .bool (decide (a = b))) rfl ?_ ?_
  · refine call17 (by simp) ?_
    simp only [Try.results17, Try.ntmps17, Try.f17, Option.getD_some, pl17]
    by_cases hlen : (a.length : Int) = b.length
    · simp only [go_sem, eI, hlen, decide_true]
      refine ALoop.intro (pl := pl17) (fun k env H => ∃ i : Nat, env 0 = eI a ∧ env 1 = eI b ∧ env 12 = I64 a.length ∧ env 13 = I64 i ∧ i + k = a.length ∧ a.take i = b.take i) a.length (by kernel_rfl) ?_ ?_
      · simp only [go_sem, eI]
        exact ⟨0, by simp [hlen]⟩
      · rintro k env H ⟨i, e0, e1, e2, e3, hk, ht⟩
        by_cases hz : (i : Int) < a.length
        · obtain ⟨x, hx⟩ : ∃ x, a[i]? = some x := ⟨_, List.getElem?_eq_getElem (by omega)⟩
          obtain ⟨y, hy⟩ : ∃ y, b[i]? = some y := ⟨_, List.getElem?_eq_getElem (by omega)⟩
          have hw : IntKind.wrap .i64 ((i : Int) + 1) = i + 1 := i64_in _ (by omega)
          have h0 : (0 : Int) ≤ i := by omega
          by_cases hxy : x = y
          · simp only [go_sem, pl17, e0, e1, e2, e3, eI, hz, decide_true, hx, hy, hxy, hw, h0]
            exact ⟨k - 1, by omega, i + 1, by simp, by omega, take_step ht hx hy hxy⟩
          · simp only [go_sem, pl17, e0, e1, e2, e3, eI, hz, decide_true, decide_false, hx, hy, hxy, hw, h0]
            congr 1
            symm
            rw [decide_eq_false_iff_not]
            rintro rfl
            rw [hx] at hy; exact hxy (by injection hy)
        · simp only [go_sem, e0, e1, e2, e3, hz, decide_false]
          congr 1
          symm
          rw [decide_eq_true_eq]
          have h1 : a.take i = a := List.take_of_length_le (by omega)
          have h2 : b.take i = b := List.take_of_length_le (by omega)
          rw [← h1, ← h2, ht]
    · simp only [go_sem, eI, hlen, decide_false]
      congr 1
      symm
      rw [decide_eq_false_iff_not]
      rintro rfl
      exact hlen rfl
  · rintro r H' rfl
    exact ⟨_, .cl rfl, rfl, hK⟩
end Go.Proofs.Ytjkcoldpecdajaa

set_option linter.unusedVariables false
set_option linter.unusedSimpArgs false
namespace Go.Proofs.Ytjkcoldpecdajaa
open Go.Abs Go.IntWalk
set_option maxRecDepth 100000
theorem bF {p : Prop} [Decidable p] (h : ¬ p) : AV.bool false = AV.bool (decide p) := by rw [decide_eq_false h]
theorem bT {p : Prop} [Decidable p] (h : p) : AV.bool true = AV.bool (decide p) := by rw [decide_eq_true h]
def CircOk (c : Circ) : Prop := c.2.1.length ≤ 1000000000 ∧ c.2.2.length ≤ 1000000000
theorem c_sameCircuit {x y : Circ} {H : Heap} {K : AV → Heap → Prop} (hx : CircOk x) (hy : CircOk y) (hK : K (.bool (decide (x = y))) H) : ACall Try.prog 16 [eC x, eC y] H K := by
  obtain ⟨xi, xg, xo⟩ := x
  obtain ⟨yi, yg, yo⟩ := y
  obtain ⟨hx1, hx2⟩ := hx
  obtain ⟨hy1, hy2⟩ := hy
  simp only at hx1 hx2 hy1 hy2
  refine ACall.pure (R := fun r _ => r = .bool (decide ((xi, xg, xo) = (yi, yg, yo)))) rfl ?_ ?_
  · refine call16 (by simp) ?_
    simp only [Try.results16, Try.ntmps16, Try.f16, Option.getD_some, pl16]
    by_cases h1 : xi = yi
    · by_cases h2 : (xg.length : Int) = yg.length
      · simp only [go_sem, eC, eGs, eI, h1, h2, decide_true]
        refine c_sameInts (a := xo) (b := yo) (by omega) (by omega) ?_
        by_cases h3 : xo = yo
        · simp only [go_sem, eC, eGs, eI, h1, h2, h3, decide_true]
          refine ALoop.intro (pl := pl16) (fun k env H => ∃ (i v2 v3 : Nat), env 2 = .ptr 2 v2 0 ∧ env 3 = .ptr 3 v3 0 ∧ env 30 = I64 yg.length ∧ env 31 = I64 i ∧ H 2 = .cells v2 27 1 [I64 yi, eGs xg, eI yo] ∧ H 3 = .cells v3 27 1 [I64 yi, eGs yg, eI yo] ∧ i + k = xg.length ∧ xg.take i = yg.take i) xg.length (by kernel_rfl) ?_ ?_
          · simp only [go_sem, eGs, eI]
            exact ⟨0, _, _, rfl, rfl, by simp, rfl, rfl, by omega, by simp⟩
          · rintro k env H ⟨i, v2, v3, e2, e3, e4, e5, b2, b3, hk, ht⟩
            by_cases hz : (i : Int) < yg.length
            · obtain ⟨p, hp⟩ : ∃ p, xg[i]? = some p := ⟨_, List.getElem?_eq_getElem (by omega)⟩
              obtain ⟨q, hq⟩ : ∃ q, yg[i]? = some q := ⟨_, List.getElem?_eq_getElem (by omega)⟩
              have hw : IntKind.wrap .i64 ((i : Int) + 1) = i + 1 := i64_in _ (by omega)
              have h0 : (0 : Int) ≤ i := by omega
              by_cases hpq : p = q
              · simp only [go_sem, pl16, e2, e3, e4, e5, b2, b3, eGs, eI, hz, decide_true, hp, hq, hpq, hw, h0, eG, cG]
                exact ⟨k - 1, by omega, i + 1, _, _, rfl, rfl, by simp, rfl, rfl, by omega, take_step ht hp hq hpq⟩
              · have hne : (decide (p.1 = q.1) && (decide (p.2.1 = q.2.1) && decide (p.2.2 = q.2.2))) = false := by
                  rw [Bool.eq_false_iff]
                  intro h
                  simp only [Bool.and_eq_true, decide_eq_true_eq] at h
                  exact hpq (Prod.ext h.1 (Prod.ext h.2.1 h.2.2))
                simp only [go_sem, pl16, e2, e3, e4, e5, b2, b3, eGs, eI, hz, decide_true, decide_false, hp, hq, hne, hw, h0, eG, cG]
                exact bF fun e => by injection e with _ e; injection e with e _; rw [e, hq] at hp; injection hp with hp; exact hpq hp.symm
            · simp only [go_sem, e2, e3, e4, e5, hz, decide_false]
              exact bT (by rw [h1, h3, ← List.take_of_length_le (l := xg) (i := i) (by omega), ht, List.take_of_length_le (by omega)])
        · simp only [go_sem, eC, eGs, eI, h1, h2, h3, decide_false]
          exact bF fun e => by injection e with _ e; injection e with _ e; exact h3 e
      · simp only [go_sem, eC, eGs, eI, h1, h2, decide_true, decide_false]
        exact bF fun e => by injection e with _ e; injection e with e _; exact h2 (by rw [e])
    · simp only [go_sem, eC, eGs, eI, h1, decide_false]
      exact bF fun e => by injection e with e _; exact h1 e
  · rintro r H' rfl
    exact ⟨_, .cl rfl, rfl, hK⟩
def eBs (l : List Bool) : AV := .sl 1 (l.map .bool)
theorem c_sameBools {a b : List Bool} {H : Heap} {K : AV → Heap → Prop} (hl : a.length ≤ 1000000000) (hl2 : b.length ≤ 1000000000) (hK : K (.bool (decide (a = b))) H) : ACall Try.prog 24 [eBs a, eBs b] H K := by
  refine ACall.pure (R := fun r _ => r = .bool (decide (a = b))) rfl ?_ ?_
  · refine call24 (by simp) ?_
    simp only [Try.results24, Try.ntmps24, Try.f24, Option.getD_some, pl24]
    by_cases hlen : (a.length : Int) = b.length
    · simp only [go_sem, eBs, hlen, decide_true]
      refine ALoop.intro (pl := pl24) (fun k env H => ∃ i : Nat, env 0 = eBs a ∧ env 1 = eBs b ∧ env 12 = I64 a.length ∧ env 13 = I64 i ∧ i + k = a.length ∧ a.take i = b.take i) a.length (by kernel_rfl) ?_ ?_
      · simp only [go_sem, eBs]
        exact ⟨0, by simp [hlen]⟩
      · rintro k env H ⟨i, e0, e1, e2, e3, hk, ht⟩
        by_cases hz : (i : Int) < a.length
        · obtain ⟨x, hx⟩ : ∃ x, a[i]? = some x := ⟨_, List.getElem?_eq_getElem (by omega)⟩
          obtain ⟨y, hy⟩ : ∃ y, b[i]? = some y := ⟨_, List.getElem?_eq_getElem (by omega)⟩
          have hw : IntKind.wrap .i64 ((i : Int) + 1) = i + 1 := i64_in _ (by omega)
          have h0 : (0 : Int) ≤ i := by omega
          by_cases hxy : x = y
          · simp only [go_sem, pl24, e0, e1, e2, e3, eBs, hz, decide_true, hx, hy, hxy, hw, h0, BEq.rfl]
            exact ⟨k - 1, by omega, i + 1, by simp, by omega, take_step ht hx hy hxy⟩
          · have hne : (x == y) = false := by simpa using hxy
            simp only [go_sem, pl24, e0, e1, e2, e3, eBs, hz, decide_true, decide_false, hx, hy, hne, hw, h0]
            exact bF fun e => by rw [e, hy] at hx; injection hx with hx; exact hxy hx.symm
        · simp only [go_sem, e0, e1, e2, e3, hz, decide_false]
          exact bT (by rw [← List.take_of_length_le (l := a) (i := i) (by omega), ht, List.take_of_length_le (by omega)])
    · simp only [go_sem, eBs, hlen, decide_false]
      exact bF fun e => hlen (by rw [e])
  · rintro r H' rfl
    exact ⟨_, .cl rfl, rfl, hK⟩
/-- The number that some wires carry. -/
def carr (all : List Bool) : Nat → List Int → Int → Int
  | _, [], n => n
  | k, w :: ws, n => carr all (k + 1) ws (if 0 ≤ w ∧ all[w.toNat]? = some true then abits .or .i64 n (IntKind.wrap .i64 (1 * 2 ^ min k 64)) else n)
end Go.Proofs.Ytjkcoldpecdajaa

set_option linter.unusedVariables false
set_option linter.unusedSimpArgs false
namespace Go.Proofs.Ytjkcoldpecdajaa
open Go.Abs Go.IntWalk
set_option maxRecDepth 100000
theorem drop_step {α : Type} {l : List α} {i : Nat} {x : α} (h : l[i]? = some x) : l.drop i = x :: l.drop (i + 1) := by
  obtain ⟨h1, h2⟩ := List.getElem?_eq_some_iff.1 h
  rw [List.drop_eq_getElem_cons h1, h2]
theorem c_carried {a : List Bool} {ws : List Int} {H : Heap} {K : AV → Heap → Prop} (hl : a.length ≤ 1000000000) (hl2 : ws.length ≤ 1000000000) (hK : K (I64 (carr a 0 ws 0)) H) : ACall Try.prog 23 [eBs a, eI ws] H K := by
  refine ACall.pure (R := fun r _ => r = I64 (carr a 0 ws 0)) rfl ?_ ?_
  · refine call23 (by simp) ?_
    simp only [Try.results23, Try.ntmps23, Try.f23, Option.getD_some, pl23]
    simp only [go_sem, eBs, eI]
    refine ALoop.intro (pl := pl23) (fun k env H => ∃ (i : Nat) (n : Int), env 0 = eBs a ∧ env 8 = eI ws ∧ env 9 = I64 ws.length ∧ env 10 = I64 i ∧ env 5 = I64 n ∧ i + k = ws.length ∧ carr a i (ws.drop i) n = carr a 0 ws 0) ws.length (by kernel_rfl) ?_ ?_
    · simp only [go_sem, eBs, eI]
      exact ⟨0, 0, by simp⟩
    · rintro k env H ⟨i, n, e0, e1, e2, e3, e4, hk, ht⟩
      by_cases hz : (i : Int) < ws.length
      · obtain ⟨x, hx⟩ : ∃ x, ws[i]? = some x := ⟨_, List.getElem?_eq_getElem (by omega)⟩
        have hw : IntKind.wrap .i64 ((i : Int) + 1) = i + 1 := i64_in _ (by omega)
        have hw2 : IntKind.wrap .u64 (i : Int) = i := u64_in _ (by omega)
        have h0 : (0 : Int) ≤ i := by omega
        rw [drop_step hx, carr] at ht
        by_cases hx0 : 0 ≤ x
        · by_cases hx1 : x < a.length
          · obtain ⟨b, hb⟩ : ∃ b, a[x.toNat]? = some b := ⟨_, List.getElem?_eq_getElem (by omega)⟩
            cases b
            · rw [if_neg (by simp [hb])] at ht
              simp only [go_sem, pl23, e0, e1, e2, e3, e4, eBs, eI, hz, decide_true, hx, hx0, hx1, hb, hw, hw2, h0]
              exact ⟨k - 1, by omega, i + 1, n, by simp, rfl, by omega, ht⟩
            · rw [if_pos ⟨hx0, hb⟩] at ht
              simp only [go_sem, pl23, e0, e1, e2, e3, e4, eBs, eI, hz, decide_true, hx, hx0, hx1, hb, hw, hw2, h0]
              refine ⟨k - 1, by omega, i + 1, _, by simp, rfl, by omega, ht⟩
          · have hb : a[x.toNat]? = none := List.getElem?_eq_none (by omega)
            rw [if_neg (by simp [hb])] at ht
            simp only [go_sem, pl23, e0, e1, e2, e3, e4, eBs, eI, hz, decide_true, decide_false, hx, hx0, hx1, hb, hw, hw2, h0]
            exact ⟨k - 1, by omega, i + 1, n, by simp, rfl, by omega, ht⟩
        · rw [if_neg (by simp [hx0])] at ht
          simp only [go_sem, pl23, e0, e1, e2, e3, e4, eBs, eI, hz, decide_true, decide_false, hx, hx0, hw, hw2, h0]
          exact ⟨k - 1, by omega, i + 1, n, by simp, rfl, by omega, ht⟩
      · simp only [go_sem, e0, e1, e2, e3, e4, hz, decide_false]
        rw [List.drop_of_length_le (by omega), carr] at ht
        rw [ht]
  · rintro r H' rfl
    exact ⟨_, .cl rfl, rfl, hK⟩
theorem c_numberOf {code : List Int} (hcode : ∀ b ∈ code, 0 ≤ b ∧ b ≤ 255) {H : Heap} {K : AV → Heap → Prop} (hl : code.length ≤ 1000000000) (hK : ∀ n, 0 ≤ n → n < 1000003 → K (I64 n) H) : ACall Try.prog 20 [eB code] H K := by
  refine ACall.pure (R := fun r _ => ∃ n, 0 ≤ n ∧ n < 1000003 ∧ r = I64 n) rfl ?_ ?_
  · refine call20 (by simp) ?_
    simp only [Try.results20, Try.ntmps20, Try.f20, Option.getD_some, pl20]
    simp only [go_sem, eB]
    refine ALoop.intro (pl := pl20) (fun k env H => ∃ (i : Nat) (n : Int), env 6 = eB code ∧ env 7 = I64 code.length ∧ env 8 = I64 i ∧ env 3 = I64 n ∧ i + k = code.length ∧ 0 ≤ n ∧ n < 1000003) code.length (by kernel_rfl) ?_ ?_
    · simp only [go_sem, eB]
      exact ⟨0, 0, by simp⟩
    · rintro k env H ⟨i, n, e0, e1, e2, e3, hk, hn, hn2⟩
      by_cases hz : (i : Int) < code.length
      · obtain ⟨x, hx⟩ : ∃ x, code[i]? = some x := ⟨_, List.getElem?_eq_getElem (by omega)⟩
        have hx2 := hcode x (List.mem_of_getElem? hx)
        have hw : IntKind.wrap .i64 ((i : Int) + 1) = i + 1 := i64_in _ (by omega)
        have hw2 : IntKind.wrap .i64 (31 * n) = 31 * n := i64_in _ (by omega)
        have hw3 : IntKind.wrap .i64 x = x := i64_in _ (by omega)
        have hw4 : IntKind.wrap .i64 (31 * n + x) = 31 * n + x := i64_in _ (by omega)
        have h0 : (0 : Int) ≤ i := by omega
        have h5 := tmod_in (31 * n + x) 1000003 (by omega) (by omega)
        simp only [go_sem, pl20, e0, e1, e2, e3, eB, hz, decide_true, hx, hw, hw2, hw3, hw4, h0]
        exact ⟨k - 1, by omega, i + 1, _, by simp, rfl, by omega, h5.1, h5.2⟩
      · simp only [go_sem, e0, e1, e2, e3, hz, decide_false]
        exact ⟨n, hn, hn2, rfl⟩
  · rintro r H' ⟨n, h1, h2, rfl⟩
    exact ⟨_, .cl rfl, rfl, hK n h1 h2⟩
theorem c_big {code more : List Int} {H : Heap} {K : AV → Heap → Prop} (hl : code.length ≤ 9223372036854775807) (hK : K (.bool (decide (1048576 < (code.length : Int)) || decide (1048576 - (code.length : Int) < more.length))) H) : ACall Try.prog 12 [eB code, eB more] H K := by
  refine ACall.pure (R := fun r _ => r = .bool (decide (1048576 < (code.length : Int)) || decide (1048576 - (code.length : Int) < more.length))) rfl ?_ ?_
  · refine call12 (by simp) ?_
    simp only [Try.results12, Try.ntmps12, Try.f12, Option.getD_some, pl12]
    have hw : IntKind.wrap .i64 (1048576 - (code.length : Int)) = 1048576 - (code.length : Int) := i64_in _ (by omega)
    by_cases h : 1048576 < (code.length : Int)
    · simp only [go_sem, eB, h, decide_true, Bool.true_or]
    · simp only [go_sem, eB, h, hw, decide_false, Bool.false_or]
  · rintro r H' rfl
    exact ⟨_, .cl rfl, rfl, hK⟩
end Go.Proofs.Ytjkcoldpecdajaa

set_option linter.unusedVariables false
set_option linter.unusedSimpArgs false
namespace Go.Proofs.Ytjkcoldpecdajaa
open Go.Abs Go.IntWalk
set_option maxRecDepth 100000
theorem c_in {n lo hi : Int} {H : Heap} {K : AV → Heap → Prop} (hK : K (.bool (decide (lo ≤ n ∧ n ≤ hi))) H) : ACall Try.prog 83 [I64 n, I64 lo, I64 hi] H K := by
  refine ACall.pure (R := fun r _ => r = .bool (decide (lo ≤ n ∧ n ≤ hi))) rfl ?_ ?_
  · refine call83 (by simp) ?_
    simp only [Try.results83, Try.ntmps83, Try.f83, Option.getD_some, pl83]
    by_cases h : lo ≤ n
    · simp only [go_sem, h, decide_true]
    · simp only [go_sem, h, decide_false, false_and]
  · rintro r H' rfl
    exact ⟨_, .cl rfl, rfl, hK⟩
def allIn (l : List Int) (lo hi : Int) : Prop := ∀ x ∈ l, lo ≤ x ∧ x ≤ hi
instance (l : List Int) (lo hi : Int) : Decidable (allIn l lo hi) := by unfold allIn; infer_instance
theorem c_all {l : List Int} {lo hi : Int} {H : Heap} {K : AV → Heap → Prop} (hl : l.length ≤ 1000000000) (hK : K (.bool (decide (allIn l lo hi))) H) : ACall Try.prog 88 [eI l, I64 lo, I64 hi] H K := by
  refine ACall.pure (R := fun r _ => r = .bool (decide (allIn l lo hi))) rfl ?_ ?_
  · refine call88 (by simp) ?_
    simp only [Try.results88, Try.ntmps88, Try.f88, Option.getD_some, pl88]
    simp only [go_sem, eI]
    refine ALoop.intro (pl := pl88) (fun k env H => ∃ i : Nat, env 1 = I64 lo ∧ env 2 = I64 hi ∧ env 9 = eI l ∧ env 10 = I64 l.length ∧ env 11 = I64 i ∧ i + k = l.length ∧ ∀ x ∈ l.take i, lo ≤ x ∧ x ≤ hi) l.length (by kernel_rfl) ?_ ?_
    · simp only [go_sem, eI]
      exact ⟨0, by simp⟩
    · rintro k env H ⟨i, e1, e2, e3, e4, e5, hk, ht⟩
      by_cases hz : (i : Int) < l.length
      · obtain ⟨x, hx⟩ : ∃ x, l[i]? = some x := ⟨_, List.getElem?_eq_getElem (by omega)⟩
        have hw : IntKind.wrap .i64 ((i : Int) + 1) = i + 1 := i64_in _ (by omega)
        have h0 : (0 : Int) ≤ i := by omega
        simp only [go_sem, e1, e2, e3, e4, e5, eI, hz, decide_true, hx, h0]
        refine c_in ?_
        by_cases hp : lo ≤ x ∧ x ≤ hi
        · simp only [go_sem, e1, e2, e3, e4, e5, eI, hp, hw, decide_true]
          refine ⟨k - 1, by omega, i + 1, by simp, by omega, ?_⟩
          intro y hy
          rw [List.take_add_one, hx] at hy
          rcases List.mem_append.1 hy with hy | hy
          · exact ht y hy
          · simp at hy; rw [hy]; exact hp
        · simp only [go_sem, hp, decide_false]
          exact bF fun h => hp (h x (List.mem_of_getElem? hx))
      · simp only [go_sem, e4, e5, hz, decide_false]
        rw [List.take_of_length_le (by omega)] at ht
        exact bT ht
  · rintro r H' rfl
    exact ⟨_, .cl rfl, rfl, hK⟩
end Go.Proofs.Ytjkcoldpecdajaa

set_option linter.unusedVariables false
set_option linter.unusedSimpArgs false
namespace Go.Proofs.Ytjkcoldpecdajaa
open Go.Abs Go.IntWalk
set_option maxRecDepth 100000
/-- A gate that is made from wires below 'own'. -/
def gateOk (g : Gate) (own : Int) : Prop :=
  (g.1 = 1 ∧ (0 ≤ g.2.1 ∧ g.2.1 ≤ 1) ∧ g.2.2 = 0) ∨ (g.1 = 2 ∧ (0 ≤ g.2.1 ∧ g.2.1 ≤ own - 1) ∧ g.2.2 = 0) ∨
  ((g.1 = 3 ∨ g.1 = 4 ∨ g.1 = 5) ∧ (0 ≤ g.2.1 ∧ g.2.1 ≤ own - 1) ∧ (0 ≤ g.2.2 ∧ g.2.2 ≤ own - 1))
instance (g : Gate) (own : Int) : Decidable (gateOk g own) := by unfold gateOk; infer_instance
theorem bE {p q : Prop} [Decidable p] [Decidable q] (h : p ↔ q) : AV.bool (decide p) = AV.bool (decide q) := by rw [decide_eq_decide.2 h]
theorem c_gate {g : Gate} {own : Int} {H : Heap} {K : AV → Heap → Prop} (h1 : -1000000 ≤ own) (h2 : own ≤ 1000000000000) (hK : K (.bool (decide (gateOk g own))) H) : ACall Try.prog 87 [eG g, I64 own] H K := by
  obtain ⟨k, x, y⟩ := g
  refine ACall.pure (R := fun r _ => r = .bool (decide (gateOk (k, x, y) own))) rfl ?_ ?_
  · refine call87 (by simp) ?_
    simp only [Try.results87, Try.ntmps87, Try.f87, Option.getD_some, pl87]
    have hw : IntKind.wrap .i64 (own - 1) = own - 1 := i64_in _ (by omega)
    by_cases k1 : k = 1
    · subst k1
      simp only [go_sem, eG, cG, decide_true]
      refine c_in ?_
      by_cases hx : 0 ≤ x ∧ x ≤ 1
      · simp only [go_sem, hx, decide_true]
        exact bE (by simp [gateOk, hx])
      · simp only [go_sem, hx, decide_false]
        exact bF (by simp only [gateOk]; omega)
    · by_cases k2 : k = 2
      · subst k2
        simp only [go_sem, eG, cG, Int.reduceEq, decide_true, decide_false, hw]
        refine c_in ?_
        by_cases hx : 0 ≤ x ∧ x ≤ own - 1
        · simp only [go_sem, hx, decide_true]
          exact bE (by simp [gateOk]; omega)
        · simp only [go_sem, hx, decide_false]
          exact bF (by simp only [gateOk]; omega)
      · by_cases kk : k = 3 ∨ k = 4 ∨ k = 5
        · rcases kk with rfl | rfl | rfl
          all_goals
            simp only [go_sem, eG, cG, Int.reduceEq, decide_true, decide_false, hw]
            refine c_in ?_
            by_cases hx : 0 ≤ x ∧ x ≤ own - 1
            · simp only [go_sem, hx, decide_true, hw]
              refine c_in ?_
              simp only [go_sem]
              exact bE (by simp [gateOk]; omega)
            · simp only [go_sem, hx, decide_false]
              exact bF (by simp only [gateOk]; omega)
        · have k3 : ¬ k = 3 := by omega
          have k4 : ¬ k = 4 := by omega
          have k5 : ¬ k = 5 := by omega
          simp only [go_sem, eG, cG, k1, k2, k3, k4, k5, decide_false]
          exact bF (by simp only [gateOk]; omega)
  · rintro r H' rfl
    exact ⟨_, .cl rfl, rfl, hK⟩
end Go.Proofs.Ytjkcoldpecdajaa

set_option linter.unusedVariables false
set_option linter.unusedSimpArgs false
namespace Go.Proofs.Ytjkcoldpecdajaa
open Go.Abs Go.IntWalk
set_option maxRecDepth 100000
def gatesOk (own : Int) : List Gate → Prop
  | [] => True
  | g :: gs => gateOk g own ∧ gatesOk (own + 1) gs
instance decGates (own : Int) : (gs : List Gate) → Decidable (gatesOk own gs)
  | [] => .isTrue trivial
  | g :: gs => have := decGates (own + 1) gs; by unfold gatesOk; infer_instance
/-- A fit circuit. -/
def goodC (c : Circ) : Prop := (0 ≤ c.1 ∧ c.1 ≤ 16) ∧ c.2.1.length ≤ 300 ∧ c.2.2.length ≤ 16 ∧ gatesOk c.1 c.2.1 ∧ allIn c.2.2 0 (c.1 + c.2.1.length - 1)
instance (c : Circ) : Decidable (goodC c) := by unfold goodC; infer_instance
theorem c_goodS {c : Circ} {H : Heap} {K : AV → Heap → Prop} (hc : CircOk c) (hK : K (.bool (decide (goodC c))) H) : ACall Try.prog 19 [eC c] H K := by
  obtain ⟨ci, gs, os⟩ := c
  obtain ⟨hc1, hc2⟩ := hc
  simp only at hc1 hc2
  refine ACall.pure (R := fun r _ => r = .bool (decide (goodC (ci, gs, os)))) rfl ?_ ?_
  · refine call19 (by simp) ?_
    simp only [Try.results19, Try.ntmps19, Try.f19, Option.getD_some, pl19]
    simp only [go_sem, eC, eGs, eI]
    refine c_in ?_
    by_cases h1 : 0 ≤ ci ∧ ci ≤ 16
    · by_cases h2 : 300 < (gs.length : Int)
      · simp only [go_sem, h1, h2, decide_true]
        exact bF fun h => by have := h.2.1; simp only at this; omega
      · by_cases h3 : 16 < (os.length : Int)
        · simp only [go_sem, h1, h2, h3, decide_true, decide_false]
          exact bF fun h => by have := h.2.2.1; simp only at this; omega
        · simp only [go_sem, h1, h2, h3, decide_true, decide_false]
          refine ALoop.intro (pl := pl19) (fun k env H => ∃ (i v1 : Nat), env 1 = .ptr 1 v1 0 ∧ env 22 = eGs gs ∧ env 23 = I64 gs.length ∧ env 24 = I64 i ∧ H 1 = .cells v1 27 1 [I64 ci, eGs gs, eI os] ∧ i + k = gs.length ∧ (gatesOk (ci + i) (gs.drop i) ↔ gatesOk ci gs)) gs.length (by kernel_rfl) ?_ ?_
          · simp only [go_sem, eGs, eI]
            exact ⟨0, _, rfl, by simp, rfl, by omega, by simp⟩
          · rintro k env H ⟨i, v1, e1, e2, e3, e4, b1, hk, ht⟩
            by_cases hz : (i : Int) < gs.length
            · obtain ⟨p, hp⟩ : ∃ p, gs[i]? = some p := ⟨_, List.getElem?_eq_getElem (by omega)⟩
              have hw : IntKind.wrap .i64 ((i : Int) + 1) = i + 1 := i64_in _ (by omega)
              have hw2 : IntKind.wrap .i64 (ci + (i : Int)) = ci + i := i64_in _ (by omega)
              have h0 : (0 : Int) ≤ i := by omega
              rw [drop_step hp, gatesOk] at ht
              simp only [go_sem, pl19, e1, e2, e3, e4, b1, eGs, eI, hz, decide_true, hp, hw2, h0, eG, cG]
              refine c_gate (g := p) (by omega) (by omega) ?_
              by_cases hg : gateOk p (ci + i)
              · simp only [go_sem, e1, e2, e3, e4, b1, eGs, eI, hg, hw, decide_true]
                refine ⟨k - 1, by omega, i + 1, v1, rfl, by simp, rfl, by omega, ?_⟩
                rw [← ht]
                simp only [hg, true_and]
                rw [show ci + ((i + 1 : Nat) : Int) = ci + i + 1 by omega]
              · simp only [go_sem, hg, decide_false]
                exact bF fun h => hg (ht.2 h.2.2.2.1).1
            · simp only [go_sem, pl19, e1, e2, e3, e4, b1, hz, decide_false]
              refine c_w4 (c := (ci, gs, os)) (.cl rfl) (by simp only; omega) (by simp only; omega) ?_
              have hw : IntKind.wrap .i64 (ci + (gs.length : Int) - 1) = ci + gs.length - 1 := i64_in _ (by omega)
              simp only [go_sem, e1, b1, hw, eI]
              refine c_all (l := os) (by omega) ?_
              simp only [go_sem]
              rw [List.drop_of_length_le (by omega), gatesOk] at ht
              have hg := ht.1 trivial
              refine bE ⟨fun h => ⟨h1, by simp only; omega, by simp only; omega, hg, h⟩, fun h => h.2.2.2.2⟩
    · simp only [go_sem, h1, decide_false]
      exact bF fun h => h1 h.1
  · rintro r H' rfl
    exact ⟨_, .cl rfl, rfl, hK⟩
end Go.Proofs.Ytjkcoldpecdajaa
