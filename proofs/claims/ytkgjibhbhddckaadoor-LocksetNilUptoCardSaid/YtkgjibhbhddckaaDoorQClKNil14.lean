/- bits: Clone, Words, All, List; gone. -/
import Derived.Test.YtkgjibhbhddckaaDoorQClKNil13
namespace Go.Vc
open Go Go.Proofs
set_option maxRecDepth 10000
variable {w : World}

/-- the clone of words -/
theorem Clone_ret {ad : Option Addr} {ws : List Nat} {cap : Nat} (h : RdW w ad ws) (hbig : ws.length * 8 ≤ 140737488355328) (hmax : ws.length ≤ maxLen) :
    Ret Tryd.prog 99 [.slice ad ws.length cap] w (fun v w' => ∃ ad' cap', v = .slice ad' ws.length cap' ∧ NewS w 151 w' ad' ws.length cap' (ws.map U) ∧ (ad = none → ad' = none ∧ cap' = 0)) := by
  refine enter Tryd.call99 Tryd.func99 rfl rfl rfl rfl ?_
  (repeat first|refine zA ?_|refine zB ?_|refine zC ?_|refine zD ?_|refine zE ?_|refine zg ?_|refine zo rfl rfl (by first|exact trivial|(simp only[AllP];omega)|(simp(discharger:=omega)only[AllP,cA,cB];omega)|(simp only[AllP,cC,cD,cE,cF,cG];omega)) ?_|refine zn ?_|refine zb ?_|refine ze rfl ?_|refine zr ?_|refine zk ?_|refine zT rfl rfl rfl ?_|refine zU rfl rfl rfl ?_|refine zV rfl rfl rfl ?_|refine zf rfl ?_|refine zt rfl ?_)
  cases ad with
  | none =>
    have hws : ws = [] := by have := h.read; simpa [ReadS] using this
    subst hws
    (repeat first|refine zA ?_|refine zB ?_|refine zC ?_|refine zD ?_|refine zE ?_|refine zg ?_|refine zo rfl rfl (by first|exact trivial|(simp only[AllP];omega)|(simp(discharger:=omega)only[AllP,cA,cB];omega)|(simp only[AllP,cC,cD,cE,cF,cG];omega)) ?_|refine zn ?_|refine zb ?_|refine ze rfl ?_|refine zr ?_|refine zk ?_|refine zT rfl rfl rfl ?_|refine zU rfl rfl rfl ?_|refine zV rfl rfl rfl ?_|refine zf rfl ?_|refine zt rfl ?_)
    exact ⟨_, rfl, none, 0, rfl, ⟨ownS_nil _ _ _, Kp.refl _ _, by simp [blkOf]⟩, fun _ => ⟨rfl, rfl⟩⟩
  | some a =>
    (repeat first|refine zA ?_|refine zB ?_|refine zC ?_|refine zD ?_|refine zE ?_|refine zg ?_|refine zo rfl rfl (by first|exact trivial|(simp only[AllP];omega)|(simp(discharger:=omega)only[AllP,cA,cB];omega)|(simp only[AllP,cC,cD,cE,cF,cG];omega)) ?_|refine zn ?_|refine zb ?_|refine ze rfl ?_|refine zr ?_|refine zk ?_|refine zT rfl rfl rfl ?_|refine zU rfl rfl rfl ?_|refine zV rfl rfl rfl ?_|refine zf rfl ?_|refine zt rfl ?_)
    refine o_buildSlice0 rfl rfl rfl rfl ?_
    intro b w1 hb hu1
    have k1 : Kp [] w w1 := hu1.kp [] (.inr (by omega))
    have ho1 : OwnS w1 151 1 (some ⟨b, 0, none⟩) 0 0 [] := ⟨rfl, rfl, rfl, Nat.le_refl _, by simp [maxLen], [], hu1.blk, rfl⟩
    (repeat first|refine zA ?_|refine zB ?_|refine zC ?_|refine zD ?_|refine zE ?_|refine zg ?_|refine zo rfl rfl (by first|exact trivial|(simp only[AllP];omega)|(simp(discharger:=omega)only[AllP,cA,cB];omega)|(simp only[AllP,cC,cD,cE,cF,cG];omega)) ?_|refine zn ?_|refine zb ?_|refine ze rfl ?_|refine zr ?_|refine zk ?_|refine zT rfl rfl rfl ?_|refine zU rfl rfl rfl ?_|refine zV rfl rfl rfl ?_|refine zf rfl ?_|refine zt rfl ?_)
    by_cases h0 : ws.length = 0
    · have hws : ws = [] := List.eq_nil_of_length_eq_zero h0
      subst hws
      refine o_append0 (ad := some ⟨b, 0, none⟩) (k := 0) (cap := 0) (ay := some a) (cy := cap) rfl rfl (Nat.le_refl _) rfl rfl rfl rfl ?_
      (repeat first|refine zA ?_|refine zB ?_|refine zC ?_|refine zD ?_|refine zE ?_|refine zg ?_|refine zo rfl rfl (by first|exact trivial|(simp only[AllP];omega)|(simp(discharger:=omega)only[AllP,cA,cB];omega)|(simp only[AllP,cC,cD,cE,cF,cG];omega)) ?_|refine zn ?_|refine zb ?_|refine ze rfl ?_|refine zr ?_|refine zk ?_|refine zT rfl rfl rfl ?_|refine zU rfl rfl rfl ?_|refine zV rfl rfl rfl ?_|refine zf rfl ?_|refine zt rfl ?_)
      exact ⟨_, rfl, _, 0, rfl, ⟨ho1, k1, by simp [blkOf]; omega⟩, fun h => by cases h⟩
    · refine o_append (ws.map U) rfl rfl ho1 ?_ rfl rfl rfl (by omega) (by simp) (by omega) (by simp [Value.oneCell']) (by omega) (by simpa using hbig) rfl rfl ?_
      · intro j v hv
        exact (h.kp k1 (by simp)).read j v hv
      intro ad2 cap2 w2 ho2 k2 hnew
      (repeat first|refine zA ?_|refine zB ?_|refine zC ?_|refine zD ?_|refine zE ?_|refine zg ?_|refine zo rfl rfl (by first|exact trivial|(simp only[AllP];omega)|(simp(discharger:=omega)only[AllP,cA,cB];omega)|(simp only[AllP,cC,cD,cE,cF,cG];omega)) ?_|refine zn ?_|refine zb ?_|refine ze rfl ?_|refine zr ?_|refine zk ?_|refine zT rfl rfl rfl ?_|refine zU rfl rfl rfl ?_|refine zV rfl rfl rfl ?_|refine zf rfl ?_|refine zt rfl ?_)
      rw [Nat.zero_add] at ho2
      refine ⟨_, rfl, ad2, cap2, by rw [Nat.zero_add], ⟨ho2, k1.since k2 (by simp [blkOf]; omega), fun c hc => ?_⟩, fun h => by cases h⟩
      rcases hnew c hc with h1 | h1
      · simp [blkOf] at h1; omega
      · have := hu1.size; omega

theorem Words_ret {p : Nat} {ws : List Nat} {ad : Option Addr} {cap : Nat} (h : SetAt w p ws ad cap) :
    Ret Tryd.prog 81 [ptr p] w (fun v w' => ∃ ad' cap', v = .slice ad' ws.length cap' ∧ NewS w 151 w' ad' ws.length cap' (ws.map U)) := by
  have hlen := h.len
  refine enter Tryd.call81 Tryd.func81 rfl rfl rfl rfl ?_
  (repeat first|refine zA ?_|refine zB ?_|refine zC ?_|refine zD ?_|refine zE ?_|refine zg ?_|refine zo rfl rfl (by first|exact trivial|(simp only[AllP];omega)|(simp(discharger:=omega)only[AllP,cA,cB];omega)|(simp only[AllP,cC,cD,cE,cF,cG];omega)) ?_|refine zn ?_|refine zb ?_|refine ze rfl ?_|refine zr ?_|refine zk ?_|refine zT rfl rfl rfl ?_|refine zU rfl rfl rfl ?_|refine zV rfl rfl rfl ?_|refine zf rfl ?_|refine zt rfl ?_)
  refine o_call (there_ret h) rfl rfl rfl ?_
  rintro v w' ⟨rfl, rfl⟩
  (repeat first|refine zA ?_|refine zB ?_|refine zC ?_|refine zD ?_|refine zE ?_|refine zg ?_|refine zo rfl rfl (by first|exact trivial|(simp only[AllP];omega)|(simp(discharger:=omega)only[AllP,cA,cB];omega)|(simp only[AllP,cC,cD,cE,cF,cG];omega)) ?_|refine zn ?_|refine zb ?_|refine ze rfl ?_|refine zr ?_|refine zk ?_|refine zT rfl rfl rfl ?_|refine zU rfl rfl rfl ?_|refine zV rfl rfl rfl ?_|refine zf rfl ?_|refine zt rfl ?_)
  try refine r_no rfl rfl ?_
  (repeat first|refine zA ?_|refine zB ?_|refine zC ?_|refine zD ?_|refine zE ?_|refine zg ?_|refine zo rfl rfl (by first|exact trivial|(simp only[AllP];omega)|(simp(discharger:=omega)only[AllP,cA,cB];omega)|(simp only[AllP,cC,cD,cE,cF,cG];omega)) ?_|refine zn ?_|refine zb ?_|refine ze rfl ?_|refine zr ?_|refine zk ?_|refine zT rfl rfl rfl ?_|refine zU rfl rfl rfl ?_|refine zV rfl rfl rfl ?_|refine zf rfl ?_|refine zt rfl ?_)
  refine o_load rfl h.hdr rfl rfl rfl rfl rfl ?_
  (repeat first|refine zA ?_|refine zB ?_|refine zC ?_|refine zD ?_|refine zE ?_|refine zg ?_|refine zo rfl rfl (by first|exact trivial|(simp only[AllP];omega)|(simp(discharger:=omega)only[AllP,cA,cB];omega)|(simp only[AllP,cC,cD,cE,cF,cG];omega)) ?_|refine zn ?_|refine zb ?_|refine ze rfl ?_|refine zr ?_|refine zk ?_|refine zT rfl rfl rfl ?_|refine zU rfl rfl rfl ?_|refine zV rfl rfl rfl ?_|refine zf rfl ?_|refine zt rfl ?_)
  refine o_call (Clone_ret h.rd (by omega) (by simp only [maxLen]; omega)) rfl rfl rfl ?_
  rintro v w2 ⟨ad2, cap2, rfl, hn, _⟩
  (repeat first|refine zA ?_|refine zB ?_|refine zC ?_|refine zD ?_|refine zE ?_|refine zg ?_|refine zo rfl rfl (by first|exact trivial|(simp only[AllP];omega)|(simp(discharger:=omega)only[AllP,cA,cB];omega)|(simp only[AllP,cC,cD,cE,cF,cG];omega)) ?_|refine zn ?_|refine zb ?_|refine ze rfl ?_|refine zr ?_|refine zk ?_|refine zT rfl rfl rfl ?_|refine zU rfl rfl rfl ?_|refine zV rfl rfl rfl ?_|refine zf rfl ?_|refine zt rfl ?_)
  exact ⟨_, rfl, ad2, cap2, rfl, hn⟩
theorem Words_nil : Ret Tryd.prog 81 [.pointer none] w (fun v w' => v = .slice none 0 0 ∧ w' = w) := by
  refine enter Tryd.call81 Tryd.func81 rfl rfl rfl rfl ?_
  (repeat first|refine zA ?_|refine zB ?_|refine zC ?_|refine zD ?_|refine zE ?_|refine zg ?_|refine zo rfl rfl (by first|exact trivial|(simp only[AllP];omega)|(simp(discharger:=omega)only[AllP,cA,cB];omega)|(simp only[AllP,cC,cD,cE,cF,cG];omega)) ?_|refine zn ?_|refine zb ?_|refine ze rfl ?_|refine zr ?_|refine zk ?_|refine zT rfl rfl rfl ?_|refine zU rfl rfl rfl ?_|refine zV rfl rfl rfl ?_|refine zf rfl ?_|refine zt rfl ?_)
  refine o_call there_nil rfl rfl rfl ?_
  rintro v w' ⟨rfl, rfl⟩
  (repeat first|refine zA ?_|refine zB ?_|refine zC ?_|refine zD ?_|refine zE ?_|refine zg ?_|refine zo rfl rfl (by first|exact trivial|(simp only[AllP];omega)|(simp(discharger:=omega)only[AllP,cA,cB];omega)|(simp only[AllP,cC,cD,cE,cF,cG];omega)) ?_|refine zn ?_|refine zb ?_|refine ze rfl ?_|refine zr ?_|refine zk ?_|refine zT rfl rfl rfl ?_|refine zU rfl rfl rfl ?_|refine zV rfl rfl rfl ?_|refine zf rfl ?_|refine zt rfl ?_)
  exact ⟨_, rfl, rfl, rfl⟩

/-! ### All: the iterator -/
abbrev encN (k : Nat) : List Value := [I (k : Int)]
theorem elems_split {ws : List Nat} {pre post : List Nat} {k : Nat} (h : elems ws = pre ++ k :: post) : bit ws k = true ∧ (∀ j, j ∈ pre → j < k) ∧ ∀ j, bit ws j = true → j < k → j ∈ pre := by
  have hs : (elems ws).Pairwise (· < ·) := List.Pairwise.filter _ List.pairwise_lt_range
  have hm : ∀ j, j ∈ elems ws ↔ bit ws j = true := fun j => by
    unfold elems
    rw [List.mem_filter, List.mem_range]
    exact ⟨fun h => h.2, fun h => ⟨bit_lt h, h⟩⟩
  rw [h] at hs hm
  rw [List.pairwise_append] at hs
  refine ⟨(hm k).1 (by simp), fun j hj => hs.2.2 j hj k (by simp), fun j hj hlt => ?_⟩
  rcases List.mem_append.1 ((hm j).2 hj) with h1 | h1
  · exact h1
  · rcases List.mem_cons.1 h1 with h1 | h1
    · omega
    · have := (List.pairwise_cons.1 hs.2.1).1 j h1; omega
theorem mem_elems {ws : List Nat} {j : Nat} : j ∈ elems ws ↔ bit ws j = true := by
  unfold elems
  rw [List.mem_filter, List.mem_range]
  exact ⟨fun h => h.2, fun h => ⟨bit_lt h, h⟩⟩
/-- what next tells behind the first ones -/
theorem nxt_elems {ws : List Nat} {pre post : List Nat} (h : elems ws = pre ++ post) (n : Nat) (hn : ∀ j, j ∈ pre → j < n) (hn2 : ∀ j, bit ws j = true → j < n → j ∈ pre) : nxt ws n = post.head? := by
  cases post with
  | nil =>
    refine nxt_none fun j hj => ?_
    cases hb : bit ws j with
    | false => rfl
    | true => have := mem_elems.2 hb; rw [h, List.append_nil] at this; have := hn j this; omega
  | cons k post =>
    obtain ⟨h1, h2, h3⟩ := elems_split h
    refine nxt_some ?_ h1 (fun j hj1 hj2 => ?_)
    · apply Classical.byContradiction
      intro hlt
      have := hn2 k h1 (by omega)
      have := h2 k this; omega
    · cases hb : bit ws j with
      | false => rfl
      | true => have := hn j (h3 j hb hj2); omega

def hdI (l : List Nat) : Int := match l.head? with | some k => (k : Int) | none => -1
theorem nxI_elems {ws : List Nat} {pre post : List Nat} (h : elems ws = pre ++ post) (n : Int) (hn : ∀ j, j ∈ pre → (j : Int) < n) (h0 : 0 ≤ n) (hn2 : ∀ j, bit ws j = true → (j : Int) < n → j ∈ pre) : nxI ws n = hdI post := by
  unfold nxI hdI
  rw [nxt_elems h n.toNat (fun j hj => by have := hn j hj; omega) (fun j hb hj => hn2 j hb (by omega))]
  all_goals (cases post.head? <;> rfl)
theorem all_iter (hT : TabW w) {bx : Nat} {ad : Option Addr} {ws : List Nat} {cap : Nat} {T : TypeId} (hbx : Blk w bx [.slice ad ws.length cap] T) (hown : OwnS w 151 1 ad ws.length cap (ws.map U)) (hok : WOk ws) (hlen : ws.length ≤ 16384) :
    Iter Tryd.prog 95 [ptr bx] (0 :: bx :: blkOf ad) encN (elems ws) w := by
  refine ⟨?_, ?_⟩
  · intro b hb
    simp only [List.mem_cons] at hb
    rcases hb with rfl | rfl | hb
    · exact hT.lt
    · exact hbx.lt
    · exact hown.lt b hb
  intro l w1 J Jx hsz hpriv hstab hJ0 hY hstabx
  have facts : ∀ pre W, J pre W → TabW W ∧ Blk W bx [.slice ad ws.length cap] T ∧ RdW W ad ws := fun pre W hJ => by
    have hp := hpriv pre W hJ
    refine ⟨hT.heap (hp _ (by simp)), by unfold Blk; rw [hp bx (by simp)]; exact hbx, ⟨(hown.keep (fun b hb => hp b (by simp [hb]))).read, hok, by omega⟩⟩
  obtain ⟨hT1, hb1, hr1⟩ := facts _ _ hJ0
  refine enter Tryd.call95 Tryd.func95 rfl rfl rfl rfl ?_
  (repeat first|refine zA ?_|refine zB ?_|refine zC ?_|refine zD ?_|refine zE ?_|refine zg ?_|refine zo rfl rfl (by first|exact trivial|(simp only[AllP];omega)|(simp(discharger:=omega)only[AllP,cA,cB];omega)|(simp only[AllP,cC,cD,cE,cF,cG];omega)) ?_|refine zn ?_|refine zb ?_|refine ze rfl ?_|refine zr ?_|refine zk ?_|refine zT rfl rfl rfl ?_|refine zU rfl rfl rfl ?_|refine zV rfl rfl rfl ?_|refine zf rfl ?_|refine zt rfl ?_)
  refine o_load rfl hb1 rfl rfl rfl rfl rfl ?_
  (repeat first|refine zA ?_|refine zB ?_|refine zC ?_|refine zD ?_|refine zE ?_|refine zg ?_|refine zo rfl rfl (by first|exact trivial|(simp only[AllP];omega)|(simp(discharger:=omega)only[AllP,cA,cB];omega)|(simp only[AllP,cC,cD,cE,cF,cG];omega)) ?_|refine zn ?_|refine zb ?_|refine ze rfl ?_|refine zr ?_|refine zk ?_|refine zT rfl rfl rfl ?_|refine zU rfl rfl rfl ?_|refine zV rfl rfl rfl ?_|refine zf rfl ?_|refine zt rfl ?_)
  refine o_call (next_ret hT1 hr1 (n := 0) (by omega)) rfl rfl rfl ?_
  rintro v w2 ⟨rfl, rfl⟩
  (repeat first|refine zA ?_|refine zB ?_|refine zC ?_|refine zD ?_|refine zE ?_|refine zg ?_|refine zo rfl rfl (by first|exact trivial|(simp only[AllP];omega)|(simp(discharger:=omega)only[AllP,cA,cB];omega)|(simp only[AllP,cC,cD,cE,cF,cG];omega)) ?_|refine zn ?_|refine zb ?_|refine ze rfl ?_|refine zr ?_|refine zk ?_|refine zT rfl rfl rfl ?_|refine zU rfl rfl rfl ?_|refine zV rfl rfl rfl ?_|refine zf rfl ?_|refine zt rfl ?_)
  refine r_loop (α := List Nat × List Nat) [0, 1, 3] (fun g => [yv l, ptr bx, I (hdI g.2)]) (fun g W => elems ws = g.1 ++ g.2 ∧ J g.1 W) (fun g => g.2.length) ([], elems ws) ?_ ⟨rfl, hJ0⟩ ?_
  · show [yv l, ptr bx, I (nxI ws 0)] = _
    rw [nxI_elems (pre := []) (post := elems ws) rfl 0 (by simp) (by omega) (fun j _ h => by omega)]
  rintro ⟨pre, post⟩ e W ⟨hx, hJ⟩
  dsimp only at hx hJ ⊢
  cases post with
  | nil =>
    (repeat first|refine zA ?_|refine zB ?_|refine zC ?_|refine zD ?_|refine zE ?_|refine zg ?_|refine zo rfl rfl (by first|exact trivial|(simp only[AllP];omega)|(simp(discharger:=omega)only[AllP,cA,cB];omega)|(simp only[AllP,cC,cD,cE,cF,cG];omega)) ?_|refine zn ?_|refine zb ?_|refine ze rfl ?_|refine zr ?_|refine zk ?_|refine zT rfl rfl rfl ?_|refine zU rfl rfl rfl ?_|refine zV rfl rfl rfl ?_|refine zf rfl ?_|refine zt rfl ?_)
    exact ⟨_, rfl, .inl (by rw [hx, List.append_nil]; exact hJ)⟩
  | cons k rest =>
    have hk : hdI (k :: rest) = (k : Int) := rfl
    rw [hk]
    obtain ⟨hbk, hlt, hall⟩ := elems_split hx
    have hkl := bit_lt hbk
    (repeat first|refine zA ?_|refine zB ?_|refine zC ?_|refine zD ?_|refine zE ?_|refine zg ?_|refine zo rfl rfl (by first|exact trivial|(simp only[AllP];omega)|(simp(discharger:=omega)only[AllP,cA,cB];omega)|(simp only[AllP,cC,cD,cE,cF,cG];omega)) ?_|refine zn ?_|refine zb ?_|refine ze rfl ?_|refine zr ?_|refine zk ?_|refine zT rfl rfl rfl ?_|refine zU rfl rfl rfl ?_|refine zV rfl rfl rfl ?_|refine zf rfl ?_|refine zt rfl ?_)
    refine o_yield (hY pre k rest W hx hJ) rfl rfl rfl rfl ?_
    rintro b W2 (⟨rfl, hJ2⟩ | ⟨rfl, hJx⟩)
    · obtain ⟨hT2, hb2, hr2⟩ := facts _ _ hJ2
      (repeat first|refine zA ?_|refine zB ?_|refine zC ?_|refine zD ?_|refine zE ?_|refine zg ?_|refine zo rfl rfl (by first|exact trivial|(simp only[AllP];omega)|(simp(discharger:=omega)only[AllP,cA,cB];omega)|(simp only[AllP,cC,cD,cE,cF,cG];omega)) ?_|refine zn ?_|refine zb ?_|refine ze rfl ?_|refine zr ?_|refine zk ?_|refine zT rfl rfl rfl ?_|refine zU rfl rfl rfl ?_|refine zV rfl rfl rfl ?_|refine zf rfl ?_|refine zt rfl ?_)
      refine o_load rfl hb2 rfl rfl rfl rfl rfl ?_
      (repeat first|refine zA ?_|refine zB ?_|refine zC ?_|refine zD ?_|refine zE ?_|refine zg ?_|refine zo rfl rfl (by first|exact trivial|(simp only[AllP];omega)|(simp(discharger:=omega)only[AllP,cA,cB];omega)|(simp only[AllP,cC,cD,cE,cF,cG];omega)) ?_|refine zn ?_|refine zb ?_|refine ze rfl ?_|refine zr ?_|refine zk ?_|refine zT rfl rfl rfl ?_|refine zU rfl rfl rfl ?_|refine zV rfl rfl rfl ?_|refine zf rfl ?_|refine zt rfl ?_)
      refine o_call (next_ret hT2 hr2 (n := (k : Int) + 1) (by omega)) rfl rfl rfl ?_
      rintro v W3 ⟨rfl, rfl⟩
      (repeat first|refine zA ?_|refine zB ?_|refine zC ?_|refine zD ?_|refine zE ?_|refine zg ?_|refine zo rfl rfl (by first|exact trivial|(simp only[AllP];omega)|(simp(discharger:=omega)only[AllP,cA,cB];omega)|(simp only[AllP,cC,cD,cE,cF,cG];omega)) ?_|refine zn ?_|refine zb ?_|refine ze rfl ?_|refine zr ?_|refine zk ?_|refine zT rfl rfl rfl ?_|refine zU rfl rfl rfl ?_|refine zV rfl rfl rfl ?_|refine zf rfl ?_|refine zt rfl ?_)
      refine ⟨(pre ++ [k], rest), ?_, ⟨by rw [hx]; simp, hJ2⟩, by simp⟩
      show [yv l, ptr bx, I (nxI ws ((k : Int) + 1))] = _
      rw [nxI_elems (pre := pre ++ [k]) (post := rest) (by rw [hx]; simp) _ ?_ (by omega) ?_]
      · intro j hj
        rcases List.mem_append.1 hj with h1 | h1
        · have := hlt j h1; omega
        · simp at h1; omega
      · intro j hb hj
        by_cases h1 : j < k
        · exact List.mem_append_left _ (hall j hb h1)
        · have : j = k := by omega
          subst this; simp
    · (repeat first|refine zA ?_|refine zB ?_|refine zC ?_|refine zD ?_|refine zE ?_|refine zg ?_|refine zo rfl rfl (by first|exact trivial|(simp only[AllP];omega)|(simp(discharger:=omega)only[AllP,cA,cB];omega)|(simp only[AllP,cC,cD,cE,cF,cG];omega)) ?_|refine zn ?_|refine zb ?_|refine ze rfl ?_|refine zr ?_|refine zk ?_|refine zT rfl rfl rfl ?_|refine zU rfl rfl rfl ?_|refine zV rfl rfl rfl ?_|refine zf rfl ?_|refine zt rfl ?_)
      exact ⟨_, rfl, .inr ⟨pre ++ [k], rest, by rw [hx]; simp, hJx⟩⟩
end Go.Vc
