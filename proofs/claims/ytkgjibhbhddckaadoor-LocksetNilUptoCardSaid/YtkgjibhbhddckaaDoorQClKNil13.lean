/- bits: Del, New. -/
import Derived.Test.YtkgjibhbhddckaaDoorQClKNil12
namespace Go.Vc
open Go Go.Proofs
set_option maxRecDepth 10000
variable {w : World}

def delW (ws : List Nat) (k : Nat) : List Nat := if k / 64 < ws.length then trim (ws.set (k / 64) (andn (ws.getD (k / 64) 0) (2 ^ (k % 64)))) else ws
theorem Del_ret {p : Nat} {ws : List Nat} {ad : Option Addr} {cap : Nat} (h : SetAt w p ws ad cap) {k : Nat} (hk : k < 1048576) :
    Ret Tryd.prog 36 [ptr p, I k] w (fun v w' => v = I 0 ∧ SetTo w p ad w' (delW ws k) ad cap) := by
  have hlen := h.len
  refine enter Tryd.call36 Tryd.func36 rfl rfl rfl rfl ?_
  (repeat first|refine zA ?_|refine zB ?_|refine zC ?_|refine zD ?_|refine zE ?_|refine zg ?_|refine zo rfl rfl (by first|exact trivial|(simp only[AllP];omega)|(simp(discharger:=omega)only[AllP,cA,cB];omega)|(simp only[AllP,cC,cD,cE,cF,cG];omega)) ?_|refine zn ?_|refine zb ?_|refine ze rfl ?_|refine zr ?_|refine zk ?_|refine zT rfl rfl rfl ?_|refine zU rfl rfl rfl ?_|refine zV rfl rfl rfl ?_|refine zf rfl ?_|refine zt rfl ?_)
  refine o_call (check_ret h k) rfl rfl rfl ?_
  rintro v w' ⟨rfl, rfl⟩
  have hchk : chk k = 0 := by unfold chk; rw [if_pos (by omega)]
  rw [hchk]
  (repeat first|refine zA ?_|refine zB ?_|refine zC ?_|refine zD ?_|refine zE ?_|refine zg ?_|refine zo rfl rfl (by first|exact trivial|(simp only[AllP];omega)|(simp(discharger:=omega)only[AllP,cA,cB];omega)|(simp only[AllP,cC,cD,cE,cF,cG];omega)) ?_|refine zn ?_|refine zb ?_|refine ze rfl ?_|refine zr ?_|refine zk ?_|refine zT rfl rfl rfl ?_|refine zU rfl rfl rfl ?_|refine zV rfl rfl rfl ?_|refine zf rfl ?_|refine zt rfl ?_)
  refine o_load rfl h.hdr rfl rfl rfl rfl rfl ?_
  (repeat first|refine zA ?_|refine zB ?_|refine zC ?_|refine zD ?_|refine zE ?_|refine zg ?_|refine zo rfl rfl (by first|exact trivial|(simp only[AllP];omega)|(simp(discharger:=omega)only[AllP,cA,cB];omega)|(simp only[AllP,cC,cD,cE,cF,cG];omega)) ?_|refine zn ?_|refine zb ?_|refine ze rfl ?_|refine zr ?_|refine zk ?_|refine zT rfl rfl rfl ?_|refine zU rfl rfl rfl ?_|refine zV rfl rfl rfl ?_|refine zf rfl ?_|refine zt rfl ?_)
  refine r_if rfl (fun hc => ?_) (fun hc => ?_)
  · have hk64 : k / 64 < ws.length := by rw [tdiv64] at hc; omega
    obtain ⟨b, junk, rfl, hblk⟩ := h.blk (by omega)
    have hx : ws.getD (k / 64) 0 < 2 ^ 64 := h.ok.getD _
    have hcell : (ws.map U ++ junk)[k / 64]? = some (U (ws.getD (k / 64) 0)) := by
      rw [List.getElem?_append_left (by simpa using hk64), List.getElem?_map, List.getD_eq_getElem?_getD, List.getElem?_eq_getElem hk64]; rfl
    refine r_seq ?_
    refine r_lastL follows_mixed rfl (by kernel_rfl) (by kernel_rfl) ?_
    dsimp only [List.dropLast]
    (repeat first|refine yo rfl rfl (by first|exact trivial|(simp only[AllP];omega)|(simp(discharger:=omega)only[AllP,cA,cB];omega)|(simp only[AllP,cC,cD,cE,cF,cG];omega)) ?_|refine yn ?_|refine q_know _ _ (some true) rfl rfl rfl ?_|refine q_know _ _ (some false) rfl rfl rfl ?_|refine q_know _ _ none rfl rfl rfl ?_)
    refine q_load rfl (fun w hs => (hs.blk h.hdr).cell rfl) rfl rfl rfl rfl ?_
    (repeat first|refine yo rfl rfl (by first|exact trivial|(simp only[AllP];omega)|(simp(discharger:=omega)only[AllP,cA,cB];omega)|(simp only[AllP,cC,cD,cE,cF,cG];omega)) ?_|refine yn ?_|refine q_know _ _ (some true) rfl rfl rfl ?_|refine q_know _ _ (some false) rfl rfl rfl ?_|refine q_know _ _ none rfl rfl rfl ?_)
    refine q_load (v := U (ws.getD (k / 64) 0)) rfl (fun w hs => ?_) rfl rfl rfl rfl ?_
    · show w.cell? ⟨b, 0 + (Int.tdiv (k : Int) 64).toNat, none⟩ = _
      rw [tdiv64, Int.toNat_natCast, Nat.zero_add]
      exact (hs.blk hblk).cell hcell
    (repeat first|refine yo rfl rfl (by first|exact trivial|(simp only[AllP];omega)|(simp(discharger:=omega)only[AllP,cA,cB];omega)|(simp only[AllP,cC,cD,cE,cF,cG];omega)) ?_|refine yn ?_|refine q_know _ _ (some true) rfl rfl rfl ?_|refine q_know _ _ (some false) rfl rfl rfl ?_|refine q_know _ _ none rfl rfl rfl ?_)
    intro w2 hs2
    have e1 : ibits .andNot .u64 ((ws.getD (k / 64) 0 : Nat) : Int) (IntKind.u64.wrap (1 * 2 ^ (min (Int.tmod (k : Int) 64).toNat 64))) = ((andn (ws.getD (k / 64) 0) (2 ^ (k % 64)) : Nat) : Int) := by
      rw [tmod64, Int.toNat_natCast, shl_one (by omega), ibits_andn hx (Nat.pow_lt_pow_right (by omega) (by omega))]
    refine o_store (b := b) (off := k / 64) (v := U (andn (ws.getD (k / 64) 0) (2 ^ (k % 64)))) (c := none) ?_ (hs2.blk hblk) (by simp; omega) ?_ rfl rfl rfl rfl rfl ?_
    · show Value.pointer (some ⟨b, 0 + (Int.tdiv (k : Int) 64).toNat, none⟩) = _
      rw [tdiv64, Int.toNat_natCast, Nat.zero_add]
    · exact congrArg (fun z => some (none, Value.int .u64 z)) e1
    intro w3 hu3
    have hto := h.stored hs2 hk64 (andn_lt hx) hblk hu3
    (repeat first|refine zA ?_|refine zB ?_|refine zC ?_|refine zD ?_|refine zE ?_|refine zg ?_|refine zo rfl rfl (by first|exact trivial|(simp only[AllP];omega)|(simp(discharger:=omega)only[AllP,cA,cB];omega)|(simp only[AllP,cC,cD,cE,cF,cG];omega)) ?_|refine zn ?_|refine zb ?_|refine ze rfl ?_|refine zr ?_|refine zk ?_|refine zT rfl rfl rfl ?_|refine zU rfl rfl rfl ?_|refine zV rfl rfl rfl ?_|refine zf rfl ?_|refine zt rfl ?_)
    refine o_call (trim_ret hto.at_) rfl rfl rfl ?_
    rintro v w4 ⟨rfl, hto4⟩
    (repeat first|refine zA ?_|refine zB ?_|refine zC ?_|refine zD ?_|refine zE ?_|refine zg ?_|refine zo rfl rfl (by first|exact trivial|(simp only[AllP];omega)|(simp(discharger:=omega)only[AllP,cA,cB];omega)|(simp only[AllP,cC,cD,cE,cF,cG];omega)) ?_|refine zn ?_|refine zb ?_|refine ze rfl ?_|refine zr ?_|refine zk ?_|refine zT rfl rfl rfl ?_|refine zU rfl rfl rfl ?_|refine zV rfl rfl rfl ?_|refine zf rfl ?_|refine zt rfl ?_)
    refine ⟨_, rfl, rfl, ?_⟩
    unfold delW
    rw [if_pos hk64]
    exact hto.trans hto4
  · have hk64 : ¬ k / 64 < ws.length := by rw [tdiv64] at hc; omega
    (repeat first|refine zA ?_|refine zB ?_|refine zC ?_|refine zD ?_|refine zE ?_|refine zg ?_|refine zo rfl rfl (by first|exact trivial|(simp only[AllP];omega)|(simp(discharger:=omega)only[AllP,cA,cB];omega)|(simp only[AllP,cC,cD,cE,cF,cG];omega)) ?_|refine zn ?_|refine zb ?_|refine ze rfl ?_|refine zr ?_|refine zk ?_|refine zT rfl rfl rfl ?_|refine zU rfl rfl rfl ?_|refine zV rfl rfl rfl ?_|refine zf rfl ?_|refine zt rfl ?_)
    refine ⟨_, rfl, rfl, ?_⟩
    unfold delW
    rw [if_neg hk64]
    exact SetTo.refl h
theorem Del_bad {p : Nat} {ws : List Nat} {ad : Option Addr} {cap : Nat} (h : SetAt w p ws ad cap) {n : Int} (hn : n < 0 ∨ 1048576 ≤ n) :
    Ret Tryd.prog 36 [ptr p, I n] w (fun v w' => v = I 2 ∧ w' = w) := by
  refine enter Tryd.call36 Tryd.func36 rfl rfl rfl rfl ?_
  (repeat first|refine zA ?_|refine zB ?_|refine zC ?_|refine zD ?_|refine zE ?_|refine zg ?_|refine zo rfl rfl (by first|exact trivial|(simp only[AllP];omega)|(simp(discharger:=omega)only[AllP,cA,cB];omega)|(simp only[AllP,cC,cD,cE,cF,cG];omega)) ?_|refine zn ?_|refine zb ?_|refine ze rfl ?_|refine zr ?_|refine zk ?_|refine zT rfl rfl rfl ?_|refine zU rfl rfl rfl ?_|refine zV rfl rfl rfl ?_|refine zf rfl ?_|refine zt rfl ?_)
  refine o_call (check_ret h n) rfl rfl rfl ?_
  rintro v w' ⟨rfl, rfl⟩
  have hchk : chk n = 2 := by unfold chk; rw [if_neg (by omega)]
  rw [hchk]
  (repeat first|refine zA ?_|refine zB ?_|refine zC ?_|refine zD ?_|refine zE ?_|refine zg ?_|refine zo rfl rfl (by first|exact trivial|(simp only[AllP];omega)|(simp(discharger:=omega)only[AllP,cA,cB];omega)|(simp only[AllP,cC,cD,cE,cF,cG];omega)) ?_|refine zn ?_|refine zb ?_|refine ze rfl ?_|refine zr ?_|refine zk ?_|refine zT rfl rfl rfl ?_|refine zU rfl rfl rfl ?_|refine zV rfl rfl rfl ?_|refine zf rfl ?_|refine zt rfl ?_)
  exact ⟨_, rfl, rfl, rfl⟩
theorem Del_nil (n : Int) : Ret Tryd.prog 36 [.pointer none, I n] w (fun v w' => v = I 1 ∧ w' = w) := by
  refine enter Tryd.call36 Tryd.func36 rfl rfl rfl rfl ?_
  (repeat first|refine zA ?_|refine zB ?_|refine zC ?_|refine zD ?_|refine zE ?_|refine zg ?_|refine zo rfl rfl (by first|exact trivial|(simp only[AllP];omega)|(simp(discharger:=omega)only[AllP,cA,cB];omega)|(simp only[AllP,cC,cD,cE,cF,cG];omega)) ?_|refine zn ?_|refine zb ?_|refine ze rfl ?_|refine zr ?_|refine zk ?_|refine zT rfl rfl rfl ?_|refine zU rfl rfl rfl ?_|refine zV rfl rfl rfl ?_|refine zf rfl ?_|refine zt rfl ?_)
  refine o_call (check_nil n) rfl rfl rfl ?_
  rintro v w' ⟨rfl, rfl⟩
  (repeat first|refine zA ?_|refine zB ?_|refine zC ?_|refine zD ?_|refine zE ?_|refine zg ?_|refine zo rfl rfl (by first|exact trivial|(simp only[AllP];omega)|(simp(discharger:=omega)only[AllP,cA,cB];omega)|(simp only[AllP,cC,cD,cE,cF,cG];omega)) ?_|refine zn ?_|refine zb ?_|refine ze rfl ?_|refine zr ?_|refine zk ?_|refine zT rfl rfl rfl ?_|refine zU rfl rfl rfl ?_|refine zV rfl rfl rfl ?_|refine zf rfl ?_|refine zt rfl ?_)
  exact ⟨_, rfl, rfl, rfl⟩

/-- a set that has been made: its blocks are new -/
structure NewSet (w : World) (p : Nat) (w' : World) (ws : List Nat) (ad : Option Addr) (cap : Nat) : Prop where
  at_ : SetAt w' p ws ad cap
  kp : Kp [] w w'
  new : ∀ b, b ∈ p :: blkOf ad → w.heap.size ≤ b
theorem NewSet.to {w1 w2 : World} {p : Nat} {ws1 ws2 : List Nat} {ad1 ad2 : Option Addr} {cap1 cap2 : Nat} (h : NewSet w p w1 ws1 ad1 cap1) (k : SetTo w1 p ad1 w2 ws2 ad2 cap2) : NewSet w p w2 ws2 ad2 cap2 :=
  ⟨k.at_, h.kp.after k.kp (fun b hb => .inr (h.new b hb)), fun b hb => by
    rcases List.mem_cons.1 hb with rfl | hb
    · exact h.new _ (by simp)
    · rcases k.new b hb with h1 | h1
      · exact h.new b (by simp [h1])
      · exact Nat.le_trans h.kp.size h1⟩
/-- what New makes of numbers -/
def newW (l : List Int) (ws : List Nat) : List Nat := l.foldl (fun ws n => putW ws n.toNat) ws
def allOk (l : List Int) : Bool := l.all fun n => decide (0 ≤ n) && decide (n < 1048576)
theorem New_ret (hT : TabW w) {ad : Option Addr} {l : List Int} {cap : Nat} (hr : ReadS w ad (l.map I)) (hl : l.length ≤ 9223372036854775807) :
    Ret Tryd.prog 65 [.slice ad l.length cap] w (fun v w' => (allOk l = true ∧ ∃ p ad' cap', v = .tuple #[ptr p, I 0] ∧ NewSet w p w' (newW l []) ad' cap') ∨ (allOk l = false ∧ v = .tuple #[.pointer none, I 2] ∧ Kp [] w w')) := by
  refine enter Tryd.call65 Tryd.func65 rfl rfl rfl rfl ?_
  (repeat first|refine zA ?_|refine zB ?_|refine zC ?_|refine zD ?_|refine zE ?_|refine zg ?_|refine zo rfl rfl (by first|exact trivial|(simp only[AllP];omega)|(simp(discharger:=omega)only[AllP,cA,cB];omega)|(simp only[AllP,cC,cD,cE,cF,cG];omega)) ?_|refine zn ?_|refine zb ?_|refine ze rfl ?_|refine zr ?_|refine zk ?_|refine zT rfl rfl rfl ?_|refine zU rfl rfl rfl ?_|refine zV rfl rfl rfl ?_|refine zf rfl ?_|refine zt rfl ?_)
  refine o_build [B true, .slice none 0 0] rfl rfl rfl rfl rfl rfl rfl ?_
  refine o_box rfl rfl rfl ?_
  intro p w1 hp hu1
  have hn1 : NewSet w p w1 [] none 0 := ⟨⟨hu1.blk, ownS_nil _ _ _, by intro x hx; simp at hx, by simp, by simp [blkOf]; have := hT.lt; omega⟩, hu1.kp [] (.inr (by omega)), by simp [blkOf]; omega⟩
  (repeat first|refine zA ?_|refine zB ?_|refine zC ?_|refine zD ?_|refine zE ?_|refine zg ?_|refine zo rfl rfl (by first|exact trivial|(simp only[AllP];omega)|(simp(discharger:=omega)only[AllP,cA,cB];omega)|(simp only[AllP,cC,cD,cE,cF,cG];omega)) ?_|refine zn ?_|refine zb ?_|refine ze rfl ?_|refine zr ?_|refine zk ?_|refine zT rfl rfl rfl ?_|refine zU rfl rfl rfl ?_|refine zV rfl rfl rfl ?_|refine zf rfl ?_|refine zt rfl ?_)
  refine r_loop (α := Nat × Option Addr × Nat) [4, 9, 10, 11] (fun g => [ptr p, .slice ad l.length cap, I l.length, I g.1]) (fun g w2 => NewSet w p w2 (newW (l.take g.1) []) g.2.1 g.2.2 ∧ g.1 ≤ l.length ∧ allOk (l.take g.1) = true) (fun g => l.length - g.1) (0, none, 0) rfl ⟨by simpa [newW] using hn1, by omega, by simp [allOk]⟩ ?_
  rintro ⟨j, ad1, cap1⟩ e w2 ⟨hns, hj, hok⟩
  dsimp only at hns hj hok ⊢
  (repeat first|refine zA ?_|refine zB ?_|refine zC ?_|refine zD ?_|refine zE ?_|refine zg ?_|refine zo rfl rfl (by first|exact trivial|(simp only[AllP];omega)|(simp(discharger:=omega)only[AllP,cA,cB];omega)|(simp only[AllP,cC,cD,cE,cF,cG];omega)) ?_|refine zn ?_|refine zb ?_|refine ze rfl ?_|refine zr ?_|refine zk ?_|refine zT rfl rfl rfl ?_|refine zU rfl rfl rfl ?_|refine zV rfl rfl rfl ?_|refine zf rfl ?_|refine zt rfl ?_)
  refine r_if rfl (fun hc => ?_) (fun hc => ?_)
  · have hlt : j < l.length := by omega
    obtain ⟨b, off, rfl, hb, hcell⟩ := hr.at_ (by simp; omega)
    have hcj : w2.cell? ⟨b, off + j, none⟩ = some (I l[j]) := by
      rw [← hcell j (I l[j]) (by simp [hlt])]
      exact World.cell?_of_block (hns.kp.at_ b hb (by simp))
    have htk : l.take (j + 1) = l.take j ++ [l[j]] := by rw [List.take_add_one, List.getElem?_eq_getElem hlt]; rfl
    (repeat first|refine zA ?_|refine zB ?_|refine zC ?_|refine zD ?_|refine zE ?_|refine zg ?_|refine zo rfl rfl (by first|exact trivial|(simp only[AllP];omega)|(simp(discharger:=omega)only[AllP,cA,cB];omega)|(simp only[AllP,cC,cD,cE,cF,cG];omega)) ?_|refine zn ?_|refine zb ?_|refine ze rfl ?_|refine zr ?_|refine zk ?_|refine zT rfl rfl rfl ?_|refine zU rfl rfl rfl ?_|refine zV rfl rfl rfl ?_|refine zf rfl ?_|refine zt rfl ?_)
    refine o_loadc rfl hcj rfl rfl rfl rfl ?_
    (repeat first|refine zA ?_|refine zB ?_|refine zC ?_|refine zD ?_|refine zE ?_|refine zg ?_|refine zo rfl rfl (by first|exact trivial|(simp only[AllP];omega)|(simp(discharger:=omega)only[AllP,cA,cB];omega)|(simp only[AllP,cC,cD,cE,cF,cG];omega)) ?_|refine zn ?_|refine zb ?_|refine ze rfl ?_|refine zr ?_|refine zk ?_|refine zT rfl rfl rfl ?_|refine zU rfl rfl rfl ?_|refine zV rfl rfl rfl ?_|refine zf rfl ?_|refine zt rfl ?_)
    by_cases hn : 0 ≤ l[j] ∧ l[j] < 1048576
    · obtain ⟨k, hk⟩ : ∃ k : Nat, l[j] = (k : Int) := ⟨l[j].toNat, by omega⟩
      rw [hk] at hn ⊢
      refine o_call (Put_ret (hT.kp hns.kp (by simp)) hns.at_ (k := k) (by omega)) rfl rfl rfl ?_
      rintro v w3 ⟨rfl, ad3, cap3, hto⟩
      (repeat first|refine zA ?_|refine zB ?_|refine zC ?_|refine zD ?_|refine zE ?_|refine zg ?_|refine zo rfl rfl (by first|exact trivial|(simp only[AllP];omega)|(simp(discharger:=omega)only[AllP,cA,cB];omega)|(simp only[AllP,cC,cD,cE,cF,cG];omega)) ?_|refine zn ?_|refine zb ?_|refine ze rfl ?_|refine zr ?_|refine zk ?_|refine zT rfl rfl rfl ?_|refine zU rfl rfl rfl ?_|refine zV rfl rfl rfl ?_|refine zf rfl ?_|refine zt rfl ?_)
      refine ⟨(j + 1, ad3, cap3), rfl, ⟨?_, by dsimp only; omega, ?_⟩, by dsimp only; omega⟩
      · dsimp only
        rw [htk, newW, List.foldl_append]
        show NewSet w p w3 (putW (newW (l.take j) []) (l[j]).toNat) ad3 cap3
        rw [hk]
        exact hns.to hto
      · dsimp only
        rw [htk]
        unfold allOk at hok ⊢
        rw [List.all_append, hok, hk]
        simp; omega
    · refine o_call (Put_bad hns.at_ (n := l[j]) (by omega)) rfl rfl rfl ?_
      rintro v w3 ⟨rfl, rfl⟩
      (repeat first|refine zA ?_|refine zB ?_|refine zC ?_|refine zD ?_|refine zE ?_|refine zg ?_|refine zo rfl rfl (by first|exact trivial|(simp only[AllP];omega)|(simp(discharger:=omega)only[AllP,cA,cB];omega)|(simp only[AllP,cC,cD,cE,cF,cG];omega)) ?_|refine zn ?_|refine zb ?_|refine ze rfl ?_|refine zr ?_|refine zk ?_|refine zT rfl rfl rfl ?_|refine zU rfl rfl rfl ?_|refine zV rfl rfl rfl ?_|refine zf rfl ?_|refine zt rfl ?_)
      refine ⟨_, rfl, .inr ⟨?_, rfl, hns.kp⟩⟩
      cases hall : allOk l with
      | false => rfl
      | true =>
        have := List.all_eq_true.1 hall l[j] (List.getElem_mem hlt)
        simp at this
        exact absurd this hn
  · have hj2 : j = l.length := by omega
    subst hj2
    rw [List.take_length] at hns hok
    (repeat first|refine zA ?_|refine zB ?_|refine zC ?_|refine zD ?_|refine zE ?_|refine zg ?_|refine zo rfl rfl (by first|exact trivial|(simp only[AllP];omega)|(simp(discharger:=omega)only[AllP,cA,cB];omega)|(simp only[AllP,cC,cD,cE,cF,cG];omega)) ?_|refine zn ?_|refine zb ?_|refine ze rfl ?_|refine zr ?_|refine zk ?_|refine zT rfl rfl rfl ?_|refine zU rfl rfl rfl ?_|refine zV rfl rfl rfl ?_|refine zf rfl ?_|refine zt rfl ?_)
    exact ⟨_, rfl, .inl ⟨hok, p, ad1, cap1, rfl, hns⟩⟩

/-! ### Numbers in and out: the words' laws -/
theorem getD_zeros (ws : List Nat) (n i : Nat) : (ws ++ List.replicate n 0).getD i 0 = ws.getD i 0 := by
  rw [List.getD_eq_getElem?_getD, List.getD_eq_getElem?_getD]
  by_cases h : i < ws.length
  · rw [List.getElem?_append_left h]
  · rw [List.getElem?_append_right (by omega), List.getElem?_replicate, List.getElem?_eq_none (l := ws) (by omega)]
    split <;> rfl
theorem getD_set (ws : List Nat) (i j x : Nat) (hi : i < ws.length) : (ws.set i x).getD j 0 = if i = j then x else ws.getD j 0 := by
  rw [List.getD_eq_getElem?_getD, List.getD_eq_getElem?_getD, List.getElem?_set]
  by_cases h : i = j
  · subst h; simp [hi]
  · simp [h]
theorem bit_putW (ws : List Nat) (k j : Nat) : bit (putW ws k) j = (bit ws j || decide (k = j)) := by
  unfold putW bit
  dsimp only
  rw [getD_set _ _ _ _ (by simp; omega), getD_zeros, getD_zeros]
  by_cases h : k / 64 = j / 64
  · rw [if_pos h, Nat.testBit_or, Nat.testBit_two_pow, h]
    congr 1
    rw [decide_eq_decide]; omega
  · rw [if_neg h]
    have : k ≠ j := by rintro rfl; exact h rfl
    simp [this]
theorem getD_trim (ws : List Nat) (i : Nat) : (trim ws).getD i 0 = ws.getD i 0 := by
  induction ws generalizing i with
  | nil => rfl
  | cons x r ih =>
    have hh : trim (x :: r) = match trim r with | [] => if x = 0 then [] else [x] | y :: s => x :: y :: s := rfl
    cases ht : trim r with
    | nil =>
      rw [ht] at hh
      dsimp only at hh
      rw [hh]
      have ih' : ∀ i, r.getD i 0 = 0 := fun i => by rw [← ih i, ht]; rfl
      cases i with
      | zero => split <;> simp_all
      | succ i =>
        rw [List.getD_cons_succ, ih' i]
        split <;> rfl
    | cons y s =>
      rw [ht] at hh
      dsimp only at hh
      rw [hh]
      cases i with
      | zero => rfl
      | succ i => rw [List.getD_cons_succ, List.getD_cons_succ, ← ih i, ht]
theorem bit_trim (ws : List Nat) (j : Nat) : bit (trim ws) j = bit ws j := by unfold bit; rw [getD_trim]
theorem bit_delW {ws : List Nat} (hok : WOk ws) (k j : Nat) : bit (delW ws k) j = (bit ws j && !decide (k = j)) := by
  unfold delW
  split
  · rename_i hlt
    rw [bit_trim]
    unfold bit
    rw [getD_set _ _ _ _ hlt]
    by_cases h : k / 64 = j / 64
    · rw [if_pos h, testBit_andn (Nat.pow_lt_pow_right (by omega) (by omega)) (by omega), Nat.testBit_two_pow, h]
      congr 2
      rw [decide_eq_decide]; omega
    · rw [if_neg h]
      have : k ≠ j := by rintro rfl; exact h rfl
      simp [this]
  · rename_i hlt
    by_cases h : k = j
    · subst h
      cases hb : bit ws k with
      | false => rfl
      | true => have := bit_lt hb; omega
    · simp [h]
theorem bit_newW (l : List Int) : ∀ (ws : List Nat) (j : Nat), allOk l = true → bit (newW l ws) j = (bit ws j || l.contains (j : Int)) := by
  induction l with
  | nil => intro ws j _; simp [newW]
  | cons n r ih =>
    intro ws j hok
    have h0 : (0 ≤ n ∧ n < 1048576) ∧ allOk r = true := by
      unfold allOk at hok ⊢; simpa only [List.all_cons, Bool.and_eq_true, decide_eq_true_eq] using hok
    have h1 := h0.2
    have h2 := h0.1
    show bit (newW r (putW ws n.toNat)) j = _
    rw [ih _ _ h1, bit_putW, Bool.or_assoc, List.contains_cons]
    congr 2
    rw [Bool.eq_iff_iff]; simp; omega
/-- the numbers, rising -/
def elems (ws : List Nat) : List Nat := (List.range (64 * ws.length)).filter (bit ws)
end Go.Vc
