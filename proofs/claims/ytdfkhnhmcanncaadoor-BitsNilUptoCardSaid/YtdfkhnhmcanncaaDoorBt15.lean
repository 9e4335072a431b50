/- bits: Of; the document's Words; sameWords. -/
import Derived.Test.YtdfkhnhmcanncaaDoorBt14
namespace Go.Vc
open Go Go.Proofs
set_option maxRecDepth 10000
variable {w : World}

theorem sameWords_ret {ad1 ad2 : Option Addr} {l1 l2 : List Nat} {n1 n2 c1 c2 : Nat} (h1 : ReadS w ad1 (l1.map U)) (h2 : ReadS w ad2 (l2.map U)) (e1 : l1.length = n1) (e2 : l2.length = n2) (hl : n1 ≤ 9223372036854775807) :
    Ret Tryd.prog 23 [.slice ad1 n1 c1, .slice ad2 n2 c2] w (fun v w' => v = .bool (decide (l1 = l2)) ∧ Sm w w') := by
  subst e1 e2
  refine enter Tryd.call23 Tryd.func23 rfl rfl rfl rfl ?_
  (repeat first|refine zA ?_|refine zB ?_|refine zC ?_|refine zD ?_|refine zE ?_|refine zg ?_|refine zo rfl rfl (by first|exact trivial|(simp only[AllP];omega)|(simp(discharger:=omega)only[AllP,cA,cB];omega)|(simp only[AllP,cC,cD,cE,cF,cG];omega)) ?_|refine zn ?_|refine zb ?_|refine ze rfl ?_|refine zr ?_|refine zk ?_|refine zT rfl rfl rfl ?_|refine zU rfl rfl rfl ?_|refine zV rfl rfl rfl ?_|refine zf rfl ?_|refine zt rfl ?_)
  refine r_ifn (p := (l1.length : Int) = l2.length) rfl (fun hne => ?_) (fun heq => ?_)
  · (repeat first|refine zA ?_|refine zB ?_|refine zC ?_|refine zD ?_|refine zE ?_|refine zg ?_|refine zo rfl rfl (by first|exact trivial|(simp only[AllP];omega)|(simp(discharger:=omega)only[AllP,cA,cB];omega)|(simp only[AllP,cC,cD,cE,cF,cG];omega)) ?_|refine zn ?_|refine zb ?_|refine ze rfl ?_|refine zr ?_|refine zk ?_|refine zT rfl rfl rfl ?_|refine zU rfl rfl rfl ?_|refine zV rfl rfl rfl ?_|refine zf rfl ?_|refine zt rfl ?_)
    refine ⟨_, rfl, ?_, Sm.refl _⟩
    rw [decide_eq_false]
    rintro rfl; exact hne rfl
  have hlen : l1.length = l2.length := by omega
  (repeat first|refine zA ?_|refine zB ?_|refine zC ?_|refine zD ?_|refine zE ?_|refine zg ?_|refine zo rfl rfl (by first|exact trivial|(simp only[AllP];omega)|(simp(discharger:=omega)only[AllP,cA,cB];omega)|(simp only[AllP,cC,cD,cE,cF,cG];omega)) ?_|refine zn ?_|refine zb ?_|refine ze rfl ?_|refine zr ?_|refine zk ?_|refine zT rfl rfl rfl ?_|refine zU rfl rfl rfl ?_|refine zV rfl rfl rfl ?_|refine zf rfl ?_|refine zt rfl ?_)
  refine r_loop (α := Nat) [0, 1, 5] (fun i => [.slice ad1 l1.length c1, .slice ad2 l2.length c2, I i]) (fun i w1 => Sm w w1 ∧ i ≤ l1.length ∧ l1.take i = l2.take i) (fun i => l1.length - i) 0 rfl ⟨Sm.refl _, by omega, rfl⟩ ?_
  rintro i e w1 ⟨hs, hi, htk⟩
  (repeat first|refine zA ?_|refine zB ?_|refine zC ?_|refine zD ?_|refine zE ?_|refine zg ?_|refine zo rfl rfl (by first|exact trivial|(simp only[AllP];omega)|(simp(discharger:=omega)only[AllP,cA,cB];omega)|(simp only[AllP,cC,cD,cE,cF,cG];omega)) ?_|refine zn ?_|refine zb ?_|refine ze rfl ?_|refine zr ?_|refine zk ?_|refine zT rfl rfl rfl ?_|refine zU rfl rfl rfl ?_|refine zV rfl rfl rfl ?_|refine zf rfl ?_|refine zt rfl ?_)
  refine r_if rfl (fun hc => ?_) (fun hc => ?_)
  · have hlt : i < l1.length := by omega
    have hlt2 : i < l2.length := by omega
    obtain ⟨b1, o1, rfl, _, hc1⟩ := h1.at_ (by simp; omega)
    obtain ⟨b2, o2, rfl, _, hc2⟩ := h2.at_ (by simp; omega)
    have g1 : ∀ w', Sm w w' → w'.cell? ⟨b1, o1 + i, none⟩ = some (U l1[i]) := fun w' hs => by
      rw [← hc1 i (U l1[i]) (by simp [hlt])]; exact World.cell?_of_block (by rw [hs.heap])
    have g2 : ∀ w', Sm w w' → w'.cell? ⟨b2, o2 + i, none⟩ = some (U l2[i]) := fun w' hs => by
      rw [← hc2 i (U l2[i]) (by simp [hlt2])]; exact World.cell?_of_block (by rw [hs.heap])
    (repeat first|refine zA ?_|refine zB ?_|refine zC ?_|refine zD ?_|refine zE ?_|refine zg ?_|refine zo rfl rfl (by first|exact trivial|(simp only[AllP];omega)|(simp(discharger:=omega)only[AllP,cA,cB];omega)|(simp only[AllP,cC,cD,cE,cF,cG];omega)) ?_|refine zn ?_|refine zb ?_|refine ze rfl ?_|refine zr ?_|refine zk ?_|refine zT rfl rfl rfl ?_|refine zU rfl rfl rfl ?_|refine zV rfl rfl rfl ?_|refine zf rfl ?_|refine zt rfl ?_)
    refine r_seq ?_
    refine r_quietS follows_mixed (by kernel_rfl) ?_
    (repeat first|refine yo rfl rfl (by first|exact trivial|(simp only[AllP];omega)|(simp(discharger:=omega)only[AllP,cA,cB];omega)|(simp only[AllP,cC,cD,cE,cF,cG];omega)) ?_|refine yn ?_|refine q_know _ _ (some true) rfl rfl rfl ?_|refine q_know _ _ (some false) rfl rfl rfl ?_|refine q_know _ _ none rfl rfl rfl ?_)
    refine q_load rfl (fun w2 hs2 => g1 w2 (hs.trans hs2)) rfl rfl rfl rfl ?_
    (repeat first|refine yo rfl rfl (by first|exact trivial|(simp only[AllP];omega)|(simp(discharger:=omega)only[AllP,cA,cB];omega)|(simp only[AllP,cC,cD,cE,cF,cG];omega)) ?_|refine yn ?_|refine q_know _ _ (some true) rfl rfl rfl ?_|refine q_know _ _ (some false) rfl rfl rfl ?_|refine q_know _ _ none rfl rfl rfl ?_)
    refine q_load rfl (fun w2 hs2 => g2 w2 (hs.trans hs2)) rfl rfl rfl rfl ?_
    (repeat first|refine yo rfl rfl (by first|exact trivial|(simp only[AllP];omega)|(simp(discharger:=omega)only[AllP,cA,cB];omega)|(simp only[AllP,cC,cD,cE,cF,cG];omega)) ?_|refine yn ?_|refine q_know _ _ (some true) rfl rfl rfl ?_|refine q_know _ _ (some false) rfl rfl rfl ?_|refine q_know _ _ none rfl rfl rfl ?_)
    intro w2 hs2
    have t1 : l1.take (i + 1) = l1.take i ++ [l1[i]] := by rw [List.take_add_one, List.getElem?_eq_getElem hlt]; rfl
    have t2 : l2.take (i + 1) = l2.take i ++ [l2[i]] := by rw [List.take_add_one, List.getElem?_eq_getElem hlt2]; rfl
    refine r_ifn (p := (l1[i] : Int) = l2[i]) rfl (fun hne => ?_) (fun heq => ?_)
    · (repeat first|refine zA ?_|refine zB ?_|refine zC ?_|refine zD ?_|refine zE ?_|refine zg ?_|refine zo rfl rfl (by first|exact trivial|(simp only[AllP];omega)|(simp(discharger:=omega)only[AllP,cA,cB];omega)|(simp only[AllP,cC,cD,cE,cF,cG];omega)) ?_|refine zn ?_|refine zb ?_|refine ze rfl ?_|refine zr ?_|refine zk ?_|refine zT rfl rfl rfl ?_|refine zU rfl rfl rfl ?_|refine zV rfl rfl rfl ?_|refine zf rfl ?_|refine zt rfl ?_)
      refine ⟨_, rfl, ?_, hs.trans hs2⟩
      rw [decide_eq_false]
      rintro rfl; exact hne rfl
    · have heq' : l1[i] = l2[i] := by omega
      (repeat first|refine zA ?_|refine zB ?_|refine zC ?_|refine zD ?_|refine zE ?_|refine zg ?_|refine zo rfl rfl (by first|exact trivial|(simp only[AllP];omega)|(simp(discharger:=omega)only[AllP,cA,cB];omega)|(simp only[AllP,cC,cD,cE,cF,cG];omega)) ?_|refine zn ?_|refine zb ?_|refine ze rfl ?_|refine zr ?_|refine zk ?_|refine zT rfl rfl rfl ?_|refine zU rfl rfl rfl ?_|refine zV rfl rfl rfl ?_|refine zf rfl ?_|refine zt rfl ?_)
      exact ⟨i + 1, rfl, ⟨hs.trans hs2, by omega, by rw [t1, t2, htk, heq']⟩, by omega⟩
  · have e1 : i = l1.length := by omega
    have e2 : l1 = l2 := by
      have := htk
      rw [e1, List.take_length] at this
      rw [this, hlen, List.take_length]
    (repeat first|refine zA ?_|refine zB ?_|refine zC ?_|refine zD ?_|refine zE ?_|refine zg ?_|refine zo rfl rfl (by first|exact trivial|(simp only[AllP];omega)|(simp(discharger:=omega)only[AllP,cA,cB];omega)|(simp only[AllP,cC,cD,cE,cF,cG];omega)) ?_|refine zn ?_|refine zb ?_|refine ze rfl ?_|refine zr ?_|refine zk ?_|refine zT rfl rfl rfl ?_|refine zU rfl rfl rfl ?_|refine zV rfl rfl rfl ?_|refine zf rfl ?_|refine zt rfl ?_)
    exact ⟨_, rfl, by rw [decide_eq_true e2], hs⟩

/-! ### A set of any length, and trim -/
structure SetB (w : World) (p : Nat) (ws : List Nat) (ad : Option Addr) (cap : Nat) : Prop where
  hdr : Blk w p [B true, .slice ad ws.length cap] 97
  own : OwnS w 41 1 ad ws.length cap (ws.map U)
  ok : WOk ws
  len : ws.length ≤ 17592186044416
  far : 0 ∉ p :: blkOf ad
section
variable {p : Nat} {ws : List Nat} {ad : Option Addr} {cap : Nat}
theorem SetB.p_ad (h : SetB w p ws ad cap) : p ∉ blkOf ad := by
  intro hb
  have h1 := h.hdr; have h2 := h.own.2
  cases ad with
  | none => simp [blkOf] at hb
  | some ad =>
    simp [blkOf] at hb; subst hb
    obtain ⟨_, _, _, _, junk, h5, _⟩ := h2
    unfold Blk at h1 h5; rw [h1] at h5; simp at h5
theorem SetB.sm {w' : World} (h : SetB w p ws ad cap) (hs : Sm w w') : SetB w' p ws ad cap := ⟨hs.blk h.hdr, h.own.sm hs, h.ok, h.len, h.far⟩
theorem SetB.blk (h : SetB w p ws ad cap) (hne : 0 < ws.length) : ∃ b junk, ad = some ⟨b, 0, none⟩ ∧ Blk w b (ws.map U ++ junk) 41 := by
  cases ad with
  | none => have := h.own.2.1; omega
  | some ad =>
    obtain ⟨b, off, spot⟩ := ad
    obtain ⟨h1, h2, _, _, junk, h5, _⟩ := h.own.2
    cases h1; cases h2
    exact ⟨b, junk, rfl, h5⟩
theorem trimB_ret (h : SetB w p ws ad cap) :
    Ret Tryd.prog 67 [ptr p] w (fun v w' => v = .tuple #[] ∧ SetB w' p (trim ws) ad cap ∧ Kp [p] w w') := by
  have hlen := h.len
  refine enter Tryd.call67 Tryd.func67 rfl rfl rfl rfl ?_
  (repeat first|refine zA ?_|refine zB ?_|refine zC ?_|refine zD ?_|refine zE ?_|refine zg ?_|refine zo rfl rfl (by first|exact trivial|(simp only[AllP];omega)|(simp(discharger:=omega)only[AllP,cA,cB];omega)|(simp only[AllP,cC,cD,cE,cF,cG];omega)) ?_|refine zn ?_|refine zb ?_|refine ze rfl ?_|refine zr ?_|refine zk ?_|refine zT rfl rfl rfl ?_|refine zU rfl rfl rfl ?_|refine zV rfl rfl rfl ?_|refine zf rfl ?_|refine zt rfl ?_)
  refine o_load rfl h.hdr rfl rfl rfl rfl rfl ?_
  (repeat first|refine zA ?_|refine zB ?_|refine zC ?_|refine zD ?_|refine zE ?_|refine zg ?_|refine zo rfl rfl (by first|exact trivial|(simp only[AllP];omega)|(simp(discharger:=omega)only[AllP,cA,cB];omega)|(simp only[AllP,cC,cD,cE,cF,cG];omega)) ?_|refine zn ?_|refine zb ?_|refine ze rfl ?_|refine zr ?_|refine zk ?_|refine zT rfl rfl rfl ?_|refine zU rfl rfl rfl ?_|refine zV rfl rfl rfl ?_|refine zf rfl ?_|refine zt rfl ?_)
  refine r_loop (α := Nat) [0, 2] (fun g => [ptr p, I g]) (fun g w1 => Sm w w1 ∧ g ≤ ws.length ∧ trim (ws.take g) = trim ws) (fun g => g) ws.length rfl ⟨Sm.refl _, Nat.le_refl _, by simp⟩ ?_
  rintro g e w1 ⟨hs, hg, htr⟩
  have h1 := h.sm hs
  (repeat first|refine zA ?_|refine zB ?_|refine zC ?_|refine zD ?_|refine zE ?_|refine zg ?_|refine zo rfl rfl (by first|exact trivial|(simp only[AllP];omega)|(simp(discharger:=omega)only[AllP,cA,cB];omega)|(simp only[AllP,cC,cD,cE,cF,cG];omega)) ?_|refine zn ?_|refine zb ?_|refine ze rfl ?_|refine zr ?_|refine zk ?_|refine zT rfl rfl rfl ?_|refine zU rfl rfl rfl ?_|refine zV rfl rfl rfl ?_|refine zf rfl ?_|refine zt rfl ?_)
  have hcap := h.own.le_cap
  refine o_bool [0, 2] [ptr p, I g] 20 (decide (0 < g ∧ ws.getD (g - 1) 0 = 0)) (fun w => w = w1) ?_ ?_
  · refine o_split 2 true rfl rfl rfl (fun hb => ?_) (fun hb => ?_)
    · have hb' : 0 < g := by simpa using hb
      (repeat first|refine zo rfl rfl (by first|exact trivial|(simp only[AllP];omega)|(simp(discharger:=omega)only[AllP,cA,cB];omega)|(simp only[AllP,cC,cD,cE,cF,cG];omega)) ?_|refine zn ?_|refine zT rfl rfl rfl ?_|refine zU rfl rfl rfl ?_|refine zV rfl rfl rfl ?_)
      refine o_load rfl h1.hdr rfl rfl rfl rfl rfl ?_
      obtain ⟨b, junk, rfl, hblk⟩ := h1.blk (by omega)
      (repeat first|refine zo rfl rfl (by first|exact trivial|(simp only[AllP];omega)|(simp(discharger:=omega)only[AllP,cA,cB];omega)|(simp only[AllP,cC,cD,cE,cF,cG];omega)) ?_|refine zn ?_|refine zT rfl rfl rfl ?_|refine zU rfl rfl rfl ?_|refine zV rfl rfl rfl ?_)
      refine o_loadc (v := U (ws.getD (g - 1) 0)) rfl ?_ rfl rfl rfl rfl ?_
      · show w1.cell? ⟨b, 0 + ((g : Int) - 1).toNat, none⟩ = _
        have e1 : 0 + ((g : Int) - 1).toNat = g - 1 := by omega
        rw [e1]
        refine hblk.cell ?_
        have hlt : g - 1 < ws.length := by omega
        rw [List.getElem?_append_left (by simpa using hlt), List.getElem?_map, List.getD_eq_getElem?_getD, List.getElem?_eq_getElem hlt]; rfl
      (repeat first|refine zo rfl rfl (by first|exact trivial|(simp only[AllP];omega)|(simp(discharger:=omega)only[AllP,cA,cB];omega)|(simp only[AllP,cC,cD,cE,cF,cG];omega)) ?_|refine zn ?_|refine zT rfl rfl rfl ?_|refine zU rfl rfl rfl ?_|refine zV rfl rfl rfl ?_)
      refine ⟨rfl, ⟨_, rfl, ?_⟩, rfl⟩
      simp only [hb', true_and, decide_eq_decide]
      omega
    · have hb' : ¬ 0 < g := by simpa using hb
      (repeat first|refine zo rfl rfl (by first|exact trivial|(simp only[AllP];omega)|(simp(discharger:=omega)only[AllP,cA,cB];omega)|(simp only[AllP,cC,cD,cE,cF,cG];omega)) ?_|refine zn ?_|refine zT rfl rfl rfl ?_|refine zU rfl rfl rfl ?_|refine zV rfl rfl rfl ?_)
      exact ⟨rfl, ⟨_, rfl, by simp [hb']⟩, rfl⟩
  rintro e w2 rfl
  refine r_if rfl (fun hc => ?_) (fun hc => ?_)
  · have e1 : ws.take g = ws.take (g - 1) ++ [0] := by
      have hlt : g - 1 < ws.length := by omega
      have h2 : ws[g - 1]? = some 0 := by rw [List.getElem?_eq_getElem hlt]; have := hc.2; rw [List.getD_eq_getElem?_getD, List.getElem?_eq_getElem hlt] at this; simpa using this
      have h3 : g = g - 1 + 1 := by omega
      rw [h3, List.take_add_one, h2]; rfl
    (repeat first|refine zA ?_|refine zB ?_|refine zC ?_|refine zD ?_|refine zE ?_|refine zg ?_|refine zo rfl rfl (by first|exact trivial|(simp only[AllP];omega)|(simp(discharger:=omega)only[AllP,cA,cB];omega)|(simp only[AllP,cC,cD,cE,cF,cG];omega)) ?_|refine zn ?_|refine zb ?_|refine ze rfl ?_|refine zr ?_|refine zk ?_|refine zT rfl rfl rfl ?_|refine zU rfl rfl rfl ?_|refine zV rfl rfl rfl ?_|refine zf rfl ?_|refine zt rfl ?_)
    refine ⟨g - 1, ?_, ⟨hs, by omega, by rw [← htr, e1, trim_snoc0]⟩, by omega⟩
    have : ((g : Int) - 1) = ((g - 1 : Nat) : Int) := by omega
    exact congrArg (fun z => [ptr p, I z]) this
  · have e1 : trim ws = ws.take g := by
      rw [← htr]
      by_cases h0 : 0 < g
      · have hlt : g - 1 < ws.length := by omega
        have h3 : g = g - 1 + 1 := by omega
        have h2 : ws.take g = ws.take (g - 1) ++ [ws.getD (g - 1) 0] := by
          conv => lhs; rw [h3, List.take_add_one, List.getElem?_eq_getElem hlt]
          rw [List.getD_eq_getElem?_getD, List.getElem?_eq_getElem hlt]; rfl
        rw [h2]; exact trim_snoc (fun hz => hc ⟨h0, hz⟩)
      · have : g = 0 := by omega
        subst this; rfl
    (repeat first|refine zA ?_|refine zB ?_|refine zC ?_|refine zD ?_|refine zE ?_|refine zg ?_|refine zo rfl rfl (by first|exact trivial|(simp only[AllP];omega)|(simp(discharger:=omega)only[AllP,cA,cB];omega)|(simp only[AllP,cC,cD,cE,cF,cG];omega)) ?_|refine zn ?_|refine zb ?_|refine ze rfl ?_|refine zr ?_|refine zk ?_|refine zT rfl rfl rfl ?_|refine zU rfl rfl rfl ?_|refine zV rfl rfl rfl ?_|refine zf rfl ?_|refine zt rfl ?_)
    refine o_load rfl h1.hdr rfl rfl rfl rfl rfl ?_
    (repeat first|refine zA ?_|refine zB ?_|refine zC ?_|refine zD ?_|refine zE ?_|refine zg ?_|refine zo rfl rfl (by first|exact trivial|(simp only[AllP];omega)|(simp(discharger:=omega)only[AllP,cA,cB];omega)|(simp only[AllP,cC,cD,cE,cF,cG];omega)) ?_|refine zn ?_|refine zb ?_|refine ze rfl ?_|refine zr ?_|refine zk ?_|refine zT rfl rfl rfl ?_|refine zU rfl rfl rfl ?_|refine zV rfl rfl rfl ?_|refine zf rfl ?_|refine zt rfl ?_)
    refine o_store rfl h1.hdr (by simp) rfl rfl rfl rfl rfl rfl ?_
    intro w3 hu
    (repeat first|refine zA ?_|refine zB ?_|refine zC ?_|refine zD ?_|refine zE ?_|refine zg ?_|refine zo rfl rfl (by first|exact trivial|(simp only[AllP];omega)|(simp(discharger:=omega)only[AllP,cA,cB];omega)|(simp only[AllP,cC,cD,cE,cF,cG];omega)) ?_|refine zn ?_|refine zb ?_|refine ze rfl ?_|refine zr ?_|refine zk ?_|refine zT rfl rfl rfl ?_|refine zU rfl rfl rfl ?_|refine zV rfl rfl rfl ?_|refine zf rfl ?_|refine zt rfl ?_)
    refine ⟨_, rfl, rfl, ?_, (hs.kp _).trans (hu.kp [p] (.inl (by simp)))⟩
    rw [e1]
    have hl : g = (ws.take g).length := by simp; omega
    have hp := h.p_ad
    refine ⟨?_, ?_, fun x hx => h.ok x (List.mem_of_mem_take hx), by simp; omega, h.far⟩
    · have := hu.blk; rw [← hl]; exact this
    · have := ((h.own.sm hs).take hg).upd hu hp
      rw [← List.map_take] at this
      rw [← hl]; exact this
end

theorem Of_ret (hT : TabW w) {ad : Option Addr} {ws : List Nat} {cap : Nat} (h : RdW w ad ws) (hl : ws.length ≤ 1048576) :
    Ret Tryd.prog 20 [.slice ad ws.length cap] w (fun v w' => (¬ Big ws ∧ ∃ p ad' cap', v = .tuple #[ptr p, I 0] ∧ NewSet w p w' (trim ws) ad' cap') ∨ (Big ws ∧ v = .tuple #[.pointer none, I 2] ∧ Kp [] w w')) := by
  refine enter Tryd.call20 Tryd.func20 rfl rfl rfl rfl ?_
  (repeat first|refine zA ?_|refine zB ?_|refine zC ?_|refine zD ?_|refine zE ?_|refine zg ?_|refine zo rfl rfl (by first|exact trivial|(simp only[AllP];omega)|(simp(discharger:=omega)only[AllP,cA,cB];omega)|(simp only[AllP,cC,cD,cE,cF,cG];omega)) ?_|refine zn ?_|refine zb ?_|refine ze rfl ?_|refine zr ?_|refine zk ?_|refine zT rfl rfl rfl ?_|refine zU rfl rfl rfl ?_|refine zV rfl rfl rfl ?_|refine zf rfl ?_|refine zt rfl ?_)
  refine o_call (Clone_ret h (by omega) (by simp only [maxLen]; omega)) rfl rfl rfl ?_
  rintro v w2 ⟨ad2, cap2, rfl, hn, _⟩
  (repeat first|refine zA ?_|refine zB ?_|refine zC ?_|refine zD ?_|refine zE ?_|refine zg ?_|refine zo rfl rfl (by first|exact trivial|(simp only[AllP];omega)|(simp(discharger:=omega)only[AllP,cA,cB];omega)|(simp only[AllP,cC,cD,cE,cF,cG];omega)) ?_|refine zn ?_|refine zb ?_|refine ze rfl ?_|refine zr ?_|refine zk ?_|refine zT rfl rfl rfl ?_|refine zU rfl rfl rfl ?_|refine zV rfl rfl rfl ?_|refine zf rfl ?_|refine zt rfl ?_)
  refine o_build [B true, .slice ad2 ws.length cap2] rfl rfl rfl rfl rfl rfl rfl ?_
  refine o_box rfl rfl rfl ?_
  intro p w3 hp hu
  have hk := hn.kp.size
  have hne : p ∉ blkOf ad2 := fun hb => by have := hn.own.lt p hb; omega
  have hB : SetB w3 p ws ad2 cap2 := by
    refine ⟨hu.blk, hn.own.upd hu hne, h.ok, by omega, ?_⟩
    intro hb
    rcases List.mem_cons.1 hb with hb | hb
    · have := hT.lt; omega
    · have := hn.new _ hb; have := hT.lt; omega
  (repeat first|refine zA ?_|refine zB ?_|refine zC ?_|refine zD ?_|refine zE ?_|refine zg ?_|refine zo rfl rfl (by first|exact trivial|(simp only[AllP];omega)|(simp(discharger:=omega)only[AllP,cA,cB];omega)|(simp only[AllP,cC,cD,cE,cF,cG];omega)) ?_|refine zn ?_|refine zb ?_|refine ze rfl ?_|refine zr ?_|refine zk ?_|refine zT rfl rfl rfl ?_|refine zU rfl rfl rfl ?_|refine zV rfl rfl rfl ?_|refine zf rfl ?_|refine zt rfl ?_)
  refine o_call (trimB_ret hB) rfl rfl rfl ?_
  rintro v w4 ⟨rfl, hB4, k4⟩
  have kall : Kp [] w w4 := (hn.kp.trans (hu.kp [] (.inr (by omega)))).since k4 (by simp; omega)
  (repeat first|refine zA ?_|refine zB ?_|refine zC ?_|refine zD ?_|refine zE ?_|refine zg ?_|refine zo rfl rfl (by first|exact trivial|(simp only[AllP];omega)|(simp(discharger:=omega)only[AllP,cA,cB];omega)|(simp only[AllP,cC,cD,cE,cF,cG];omega)) ?_|refine zn ?_|refine zb ?_|refine ze rfl ?_|refine zr ?_|refine zk ?_|refine zT rfl rfl rfl ?_|refine zU rfl rfl rfl ?_|refine zV rfl rfl rfl ?_|refine zf rfl ?_|refine zt rfl ?_)
  refine o_load rfl hB4.hdr rfl rfl rfl rfl rfl ?_
  (repeat first|refine zA ?_|refine zB ?_|refine zC ?_|refine zD ?_|refine zE ?_|refine zg ?_|refine zo rfl rfl (by first|exact trivial|(simp only[AllP];omega)|(simp(discharger:=omega)only[AllP,cA,cB];omega)|(simp only[AllP,cC,cD,cE,cF,cG];omega)) ?_|refine zn ?_|refine zb ?_|refine ze rfl ?_|refine zr ?_|refine zk ?_|refine zT rfl rfl rfl ?_|refine zU rfl rfl rfl ?_|refine zV rfl rfl rfl ?_|refine zf rfl ?_|refine zt rfl ?_)
  refine r_if rfl (fun hc => ?_) (fun hc => ?_)
  · (repeat first|refine zA ?_|refine zB ?_|refine zC ?_|refine zD ?_|refine zE ?_|refine zg ?_|refine zo rfl rfl (by first|exact trivial|(simp only[AllP];omega)|(simp(discharger:=omega)only[AllP,cA,cB];omega)|(simp only[AllP,cC,cD,cE,cF,cG];omega)) ?_|refine zn ?_|refine zb ?_|refine ze rfl ?_|refine zr ?_|refine zk ?_|refine zT rfl rfl rfl ?_|refine zU rfl rfl rfl ?_|refine zV rfl rfl rfl ?_|refine zf rfl ?_|refine zt rfl ?_)
    exact ⟨_, rfl, .inr ⟨(big_iff h.ok).2 (by omega), rfl, kall⟩⟩
  · (repeat first|refine zA ?_|refine zB ?_|refine zC ?_|refine zD ?_|refine zE ?_|refine zg ?_|refine zo rfl rfl (by first|exact trivial|(simp only[AllP];omega)|(simp(discharger:=omega)only[AllP,cA,cB];omega)|(simp only[AllP,cC,cD,cE,cF,cG];omega)) ?_|refine zn ?_|refine zb ?_|refine ze rfl ?_|refine zr ?_|refine zk ?_|refine zT rfl rfl rfl ?_|refine zU rfl rfl rfl ?_|refine zV rfl rfl rfl ?_|refine zf rfl ?_|refine zt rfl ?_)
    refine ⟨_, rfl, .inl ⟨fun hb => by have := (big_iff h.ok).1 hb; omega, p, ad2, cap2, rfl, ⟨hB4.hdr, hB4.own, hB4.ok, by omega, hB4.far⟩, kall, ?_⟩⟩
    intro b hb
    rcases List.mem_cons.1 hb with rfl | hb
    · omega
    · exact hn.new b hb

/-! ### The document's Words -/
theorem refWords_nil : Ret Tryd.prog 25 [.pointer none] w (fun v w' => v = .slice none 0 0 ∧ w' = w) := by
  refine enter Tryd.call25 Tryd.func25 rfl rfl rfl rfl ?_
  (repeat first|refine zA ?_|refine zB ?_|refine zC ?_|refine zD ?_|refine zE ?_|refine zg ?_|refine zo rfl rfl (by first|exact trivial|(simp only[AllP];omega)|(simp(discharger:=omega)only[AllP,cA,cB];omega)|(simp only[AllP,cC,cD,cE,cF,cG];omega)) ?_|refine zn ?_|refine zb ?_|refine ze rfl ?_|refine zr ?_|refine zk ?_|refine zT rfl rfl rfl ?_|refine zU rfl rfl rfl ?_|refine zV rfl rfl rfl ?_|refine zf rfl ?_|refine zt rfl ?_)
  exact ⟨_, rfl, rfl, rfl⟩
theorem shl_weight {k : Nat} (hk : k < 63) : IntKind.u64.wrap (((2 ^ k : Nat) : Int) * 2) = ((2 ^ (k + 1) : Nat) : Int) := by
  rw [wrapU, Nat.pow_succ]
  have : 2 ^ k < 2 ^ 63 := Nat.pow_lt_pow_right (by omega) hk
  generalize 2 ^ k = z at this ⊢
  omega
theorem refWords_ret {p : Nat} {l : List Nat} {ad : Option Addr} {cap : Nat} (h : RefAt w p l ad cap) (hl : l.length ≤ 16777216) (hs : l.Pairwise (· < ·)) (hr : ∀ k ∈ l, k < 1048576) :
    Ret Tryd.prog 25 [ptr p] w (fun v w' => ∃ ad' cap', v = .slice ad' (refW l).length cap' ∧ NewS w 41 w' ad' (refW l).length cap' ((refW l).map U)) := by
  refine enter Tryd.call25 Tryd.func25 rfl rfl rfl rfl ?_
  (repeat first|refine zA ?_|refine zB ?_|refine zC ?_|refine zD ?_|refine zE ?_|refine zg ?_|refine zo rfl rfl (by first|exact trivial|(simp only[AllP];omega)|(simp(discharger:=omega)only[AllP,cA,cB];omega)|(simp only[AllP,cC,cD,cE,cF,cG];omega)) ?_|refine zn ?_|refine zb ?_|refine ze rfl ?_|refine zr ?_|refine zk ?_|refine zT rfl rfl rfl ?_|refine zU rfl rfl rfl ?_|refine zV rfl rfl rfl ?_|refine zf rfl ?_|refine zt rfl ?_)
  refine o_load rfl h.hdr rfl rfl rfl rfl rfl ?_
  (repeat first|refine zA ?_|refine zB ?_|refine zC ?_|refine zD ?_|refine zE ?_|refine zg ?_|refine zo rfl rfl (by first|exact trivial|(simp only[AllP];omega)|(simp(discharger:=omega)only[AllP,cA,cB];omega)|(simp only[AllP,cC,cD,cE,cF,cG];omega)) ?_|refine zn ?_|refine zb ?_|refine ze rfl ?_|refine zr ?_|refine zk ?_|refine zT rfl rfl rfl ?_|refine zU rfl rfl rfl ?_|refine zV rfl rfl rfl ?_|refine zf rfl ?_|refine zt rfl ?_)
  refine r_if (p := (l.length : Int) = 0) rfl (fun hc => ?_) (fun hc => ?_)
  · have hl0 : l = [] := List.eq_nil_of_length_eq_zero (by omega)
    subst hl0
    (repeat first|refine zA ?_|refine zB ?_|refine zC ?_|refine zD ?_|refine zE ?_|refine zg ?_|refine zo rfl rfl (by first|exact trivial|(simp only[AllP];omega)|(simp(discharger:=omega)only[AllP,cA,cB];omega)|(simp only[AllP,cC,cD,cE,cF,cG];omega)) ?_|refine zn ?_|refine zb ?_|refine ze rfl ?_|refine zr ?_|refine zk ?_|refine zT rfl rfl rfl ?_|refine zU rfl rfl rfl ?_|refine zV rfl rfl rfl ?_|refine zf rfl ?_|refine zt rfl ?_)
    exact ⟨_, rfl, none, 0, rfl, ⟨ownS_nil _ _ _, Kp.refl _ _, by simp [blkOf]⟩⟩
  have hpos : 0 < l.length := by omega
  obtain ⟨kl, hkl⟩ : ∃ k, l.getLast? = some k := by
    cases hh : l.getLast? with
    | none => simp at hh; subst hh; simp at hpos
    | some k => exact ⟨k, rfl⟩
  have hmem : kl ∈ l := List.mem_of_getLast? hkl
  have hklt := hr kl hmem
  have hmax : ∀ j ∈ l, j ≤ kl := by
    intro j hj
    obtain ⟨pre, hp⟩ : ∃ pre, l = pre ++ [kl] := List.getLast?_eq_some_iff.1 hkl
    have hs2 := hs
    rw [hp] at hs2 hj
    rcases List.mem_append.1 hj with h | h
    · exact Nat.le_of_lt ((List.pairwise_append.1 hs2).2.2 j h kl (by simp))
    · simp at h; omega
  have hlast : l[l.length - 1]? = some kl := by rw [← List.getLast?_eq_getElem?]; exact hkl
  have hrefW : refW l = owW (kl / 64 + 1) l := by unfold refW; rw [hkl]
  rw [hrefW]
  obtain ⟨N, hN⟩ : ∃ N, N = kl / 64 + 1 := ⟨_, rfl⟩
  rw [← hN]
  have hget : ∀ w', RefAt w' p l ad cap → ∃ b, ad = some ⟨b, 0, none⟩ ∧ ∀ i v, (l.map encI)[i]? = some v → w'.cell? ⟨b, i, none⟩ = some v := fun w' h' => by
    have ho := h'.own
    cases ad with
    | none => have := ho.2.1; omega
    | some ad =>
      obtain ⟨b, off, spot⟩ := ad
      obtain ⟨h1, h2, _⟩ := ho.2
      cases h1; cases h2
      exact ⟨b, rfl, fun i v hv => ho.get hv⟩
  obtain ⟨b, rfl, _⟩ := hget w h
  have hcell : ∀ w', RefAt w' p l (some ⟨b, 0, none⟩) cap → ∀ i v, (l.map encI)[i]? = some v → w'.cell? ⟨b, i, none⟩ = some v := fun w' h' => by
    obtain ⟨b', e1, h2⟩ := hget w' h'
    cases e1; exact h2
  (repeat first|refine zA ?_|refine zB ?_|refine zC ?_|refine zD ?_|refine zE ?_|refine zg ?_|refine zo rfl rfl (by first|exact trivial|(simp only[AllP];omega)|(simp(discharger:=omega)only[AllP,cA,cB];omega)|(simp only[AllP,cC,cD,cE,cF,cG];omega)) ?_|refine zn ?_|refine zb ?_|refine ze rfl ?_|refine zr ?_|refine zk ?_|refine zT rfl rfl rfl ?_|refine zU rfl rfl rfl ?_|refine zV rfl rfl rfl ?_|refine zf rfl ?_|refine zt rfl ?_)
  refine r_seq ?_
  refine r_mix (fun w' => RefAt w' p l (some ⟨b, 0, none⟩) cap) [(0, false), (1, false), (2, false), (3, false), (4, false), (5, false), (6, false), (7, false), (8, false), (9, false), (10, false), (11, false), (12, false), (13, false), (14, true), (15, false)] follows_mixed (by kernel_rfl) (by kernel_rfl) rfl (h.sm (Sm.drew w)) ?_
  (repeat first|refine xo rfl rfl (by first|exact trivial|(simp only[AllP];omega)|(simp(discharger:=omega)only[AllP,cA,cB];omega)|(simp only[AllP,cC,cD,cE,cF,cG];omega)) ?_|refine xn ?_|refine x_know rfl _ _ (some true) rfl rfl rfl ?_|refine x_know rfl _ _ (some false) rfl rfl rfl ?_|refine x_know rfl _ _ none rfl rfl rfl ?_)
  refine x_load rfl rfl (fun w' h' => h'.hdr.cell rfl) rfl rfl rfl rfl ?_
  (repeat first|refine xo rfl rfl (by first|exact trivial|(simp only[AllP];omega)|(simp(discharger:=omega)only[AllP,cA,cB];omega)|(simp only[AllP,cC,cD,cE,cF,cG];omega)) ?_|refine xn ?_|refine x_know rfl _ _ (some true) rfl rfl rfl ?_|refine x_know rfl _ _ (some false) rfl rfl rfl ?_|refine x_know rfl _ _ none rfl rfl rfl ?_)
  refine x_load rfl rfl (fun w' h' => h'.hdr.cell rfl) rfl rfl rfl rfl ?_
  (repeat first|refine xo rfl rfl (by first|exact trivial|(simp only[AllP];omega)|(simp(discharger:=omega)only[AllP,cA,cB];omega)|(simp only[AllP,cC,cD,cE,cF,cG];omega)) ?_|refine xn ?_|refine x_know rfl _ _ (some true) rfl rfl rfl ?_|refine x_know rfl _ _ (some false) rfl rfl rfl ?_|refine x_know rfl _ _ none rfl rfl rfl ?_)
  refine x_load (v := I (kl : Int)) rfl rfl (fun w' h' => ?_) rfl rfl rfl rfl ?_
  · show w'.cell? ⟨b, 0 + ((l.length : Int) - 1).toNat, none⟩ = _
    have e1 : 0 + ((l.length : Int) - 1).toNat = l.length - 1 := by omega
    rw [e1]
    exact hcell w' h' _ _ (by rw [List.getElem?_map, hlast]; rfl)
  (repeat first|refine xo rfl rfl (by first|exact trivial|(simp only[AllP];omega)|(simp(discharger:=omega)only[AllP,cA,cB];omega)|(simp only[AllP,cC,cD,cE,cF,cG];omega)) ?_|refine xn ?_|refine x_know rfl _ _ (some true) rfl rfl rfl ?_|refine x_know rfl _ _ (some false) rfl rfl rfl ?_|refine x_know rfl _ _ none rfl rfl rfl ?_)
  have hdiv : Int.tdiv (kl : Int) 64 + 1 = (N : Int) := by rw [tdiv64, hN]; omega
  refine x_act rfl ?_
  refine o_make (len := (N : Int)) (cap := (N : Int)) (kl := .i64) (kc := .i64) (congrArg (Value.int .i64) hdiv) (congrArg (Value.int .i64) hdiv) rfl rfl rfl (by omega) (by omega) (by omega) (by omega) rfl rfl ?_
  intro bo w2 hbo hu2
  have k2 : Kp [] w w2 := ((Sm.drew w).kp []).trans (hu2.kp [] (.inr (by omega)))
  have h2 := h.kp k2 (by simp)
  refine o_nil ⟨.inr h2, ?_⟩
  (repeat first|refine xo rfl rfl (by first|exact trivial|(simp only[AllP];omega)|(simp(discharger:=omega)only[AllP,cA,cB];omega)|(simp only[AllP,cC,cD,cE,cF,cG];omega)) ?_|refine xn ?_|refine x_know rfl _ _ (some true) rfl rfl rfl ?_|refine x_know rfl _ _ (some false) rfl rfl rfl ?_|refine x_know rfl _ _ none rfl rfl rfl ?_)
  have hb2 := hu2.blk
  have hnew : w.heap.size ≤ bo := by have := (Sm.drew w).heap; rw [hbo]; exact Nat.le_refl _
  rw [Int.toNat_natCast] at hb2
  rw [Int.toNat_natCast]
  have hblen : b < w.heap.size := h.lt b (by simp [blkOf])
  have hplt := h.hdr.lt
  clear hu2
  (repeat first|refine zA ?_|refine zB ?_|refine zC ?_|refine zD ?_|refine zE ?_|refine zg ?_|refine zo rfl rfl (by first|exact trivial|(simp only[AllP];omega)|(simp(discharger:=omega)only[AllP,cA,cB];omega)|(simp only[AllP,cC,cD,cE,cF,cG];omega)) ?_|refine zn ?_|refine zb ?_|refine ze rfl ?_|refine zr ?_|refine zk ?_|refine zT rfl rfl rfl ?_|refine zU rfl rfl rfl ?_|refine zV rfl rfl rfl ?_|refine zf rfl ?_|refine zt rfl ?_)
  refine r_loop (α := Nat) [0, 3, 4] (fun i => [ptr p, .slice (some ⟨bo, 0, none⟩) N N, I i]) (fun i w3 => Blk w3 bo ((owW N (l.take i)).map U) 41 ∧ Kp [] w w3 ∧ i ≤ l.length) (fun i => l.length - i) 0 rfl ⟨?_, k2, by omega⟩ ?_
  · rw [show (owW N (l.take 0)).map U = List.replicate N (Value.int .u64 0) by simp [owW]]; exact hb2
  rintro i e w3 ⟨hb3, k3, hi⟩
  have h3 := h.kp k3 (by simp)
  (repeat first|refine zA ?_|refine zB ?_|refine zC ?_|refine zD ?_|refine zE ?_|refine zg ?_|refine zo rfl rfl (by first|exact trivial|(simp only[AllP];omega)|(simp(discharger:=omega)only[AllP,cA,cB];omega)|(simp only[AllP,cC,cD,cE,cF,cG];omega)) ?_|refine zn ?_|refine zb ?_|refine ze rfl ?_|refine zr ?_|refine zk ?_|refine zT rfl rfl rfl ?_|refine zU rfl rfl rfl ?_|refine zV rfl rfl rfl ?_|refine zf rfl ?_|refine zt rfl ?_)
  refine o_load rfl h3.hdr rfl rfl rfl rfl rfl ?_
  (repeat first|refine zA ?_|refine zB ?_|refine zC ?_|refine zD ?_|refine zE ?_|refine zg ?_|refine zo rfl rfl (by first|exact trivial|(simp only[AllP];omega)|(simp(discharger:=omega)only[AllP,cA,cB];omega)|(simp only[AllP,cC,cD,cE,cF,cG];omega)) ?_|refine zn ?_|refine zb ?_|refine ze rfl ?_|refine zr ?_|refine zk ?_|refine zT rfl rfl rfl ?_|refine zU rfl rfl rfl ?_|refine zV rfl rfl rfl ?_|refine zf rfl ?_|refine zt rfl ?_)
  refine r_if rfl (fun hc2 => ?_) (fun hc2 => ?_)
  rotate_left
  · have : i = l.length := by omega
    subst this
    rw [List.take_length] at hb3
    (repeat first|refine zA ?_|refine zB ?_|refine zC ?_|refine zD ?_|refine zE ?_|refine zg ?_|refine zo rfl rfl (by first|exact trivial|(simp only[AllP];omega)|(simp(discharger:=omega)only[AllP,cA,cB];omega)|(simp only[AllP,cC,cD,cE,cF,cG];omega)) ?_|refine zn ?_|refine zb ?_|refine ze rfl ?_|refine zr ?_|refine zk ?_|refine zT rfl rfl rfl ?_|refine zU rfl rfl rfl ?_|refine zV rfl rfl rfl ?_|refine zf rfl ?_|refine zt rfl ?_)
    have hol := owW_len N l
    refine ⟨_, rfl, some ⟨bo, 0, none⟩, N, by rw [hol], ⟨?_, k3, by simp [blkOf]; omega⟩⟩
    rw [hol]
    exact ⟨by simp [hol], rfl, rfl, Nat.le_refl _, by simp only [maxLen]; omega, [], by rw [List.append_nil]; exact hb3, by simp [hol]⟩
  have hlt : i < l.length := by omega
  obtain ⟨k, hk⟩ : ∃ k, k = l[i] := ⟨_, rfl⟩
  have hgi : (l.map encI)[i]? = some (I (k : Int)) := by rw [List.getElem?_map, List.getElem?_eq_getElem hlt, hk]; rfl
  have hkm : k ∈ l := by rw [hk]; exact List.getElem_mem hlt
  have hkb := hr k hkm
  have hkmax := hmax k hkm
  (repeat first|refine zA ?_|refine zB ?_|refine zC ?_|refine zD ?_|refine zE ?_|refine zg ?_|refine zo rfl rfl (by first|exact trivial|(simp only[AllP];omega)|(simp(discharger:=omega)only[AllP,cA,cB];omega)|(simp only[AllP,cC,cD,cE,cF,cG];omega)) ?_|refine zn ?_|refine zb ?_|refine ze rfl ?_|refine zr ?_|refine zk ?_|refine zT rfl rfl rfl ?_|refine zU rfl rfl rfl ?_|refine zV rfl rfl rfl ?_|refine zf rfl ?_|refine zt rfl ?_)
  refine r_loop (α := Nat) [0, 3, 4, 5, 6] (fun g => [ptr p, .slice (some ⟨bo, 0, none⟩) N N, I i, U (2 ^ g), I g]) (fun g w4 => w3 = w4 ∧ g ≤ k % 64) (fun g => k % 64 - g) 0 rfl ⟨rfl, by omega⟩ ?_
  rintro g e w4 ⟨rfl, hg⟩
  (repeat first|refine zA ?_|refine zB ?_|refine zC ?_|refine zD ?_|refine zE ?_|refine zg ?_|refine zo rfl rfl (by first|exact trivial|(simp only[AllP];omega)|(simp(discharger:=omega)only[AllP,cA,cB];omega)|(simp only[AllP,cC,cD,cE,cF,cG];omega)) ?_|refine zn ?_|refine zb ?_|refine ze rfl ?_|refine zr ?_|refine zk ?_|refine zT rfl rfl rfl ?_|refine zU rfl rfl rfl ?_|refine zV rfl rfl rfl ?_|refine zf rfl ?_|refine zt rfl ?_)
  refine o_load rfl h3.hdr rfl rfl rfl rfl rfl ?_
  (repeat first|refine zA ?_|refine zB ?_|refine zC ?_|refine zD ?_|refine zE ?_|refine zg ?_|refine zo rfl rfl (by first|exact trivial|(simp only[AllP];omega)|(simp(discharger:=omega)only[AllP,cA,cB];omega)|(simp only[AllP,cC,cD,cE,cF,cG];omega)) ?_|refine zn ?_|refine zb ?_|refine ze rfl ?_|refine zr ?_|refine zk ?_|refine zT rfl rfl rfl ?_|refine zU rfl rfl rfl ?_|refine zV rfl rfl rfl ?_|refine zf rfl ?_|refine zt rfl ?_)
  refine o_loadc (v := I (k : Int)) rfl ?_ rfl rfl rfl rfl ?_
  · show w3.cell? ⟨b, 0 + i, none⟩ = _
    rw [Nat.zero_add]; exact hcell w3 h3 _ _ hgi
  (repeat first|refine zA ?_|refine zB ?_|refine zC ?_|refine zD ?_|refine zE ?_|refine zg ?_|refine zo rfl rfl (by first|exact trivial|(simp only[AllP];omega)|(simp(discharger:=omega)only[AllP,cA,cB];omega)|(simp only[AllP,cC,cD,cE,cF,cG];omega)) ?_|refine zn ?_|refine zb ?_|refine ze rfl ?_|refine zr ?_|refine zk ?_|refine zT rfl rfl rfl ?_|refine zU rfl rfl rfl ?_|refine zV rfl rfl rfl ?_|refine zf rfl ?_|refine zt rfl ?_)
  have htm := tmod64 k
  refine r_if rfl (fun hc3 => ?_) (fun hc3 => ?_)
  · rw [htm] at hc3
    (repeat first|refine zA ?_|refine zB ?_|refine zC ?_|refine zD ?_|refine zE ?_|refine zg ?_|refine zo rfl rfl (by first|exact trivial|(simp only[AllP];omega)|(simp(discharger:=omega)only[AllP,cA,cB];omega)|(simp only[AllP,cC,cD,cE,cF,cG];omega)) ?_|refine zn ?_|refine zb ?_|refine ze rfl ?_|refine zr ?_|refine zk ?_|refine zT rfl rfl rfl ?_|refine zU rfl rfl rfl ?_|refine zV rfl rfl rfl ?_|refine zf rfl ?_|refine zt rfl ?_)
    refine ⟨g + 1, ?_, ⟨rfl, by omega⟩, by omega⟩
    exact congrArg (fun z => [ptr p, .slice (some ⟨bo, 0, none⟩) N N, I i, Value.int .u64 z, I ((g : Int) + 1)]) (shl_weight (by omega))
  · have hgk : g = k % 64 := by rw [htm] at hc3; omega
    have hkN : k / 64 < N := by omega
    have hol := owW_len N (l.take i)
    (repeat first|refine zA ?_|refine zB ?_|refine zC ?_|refine zD ?_|refine zE ?_|refine zg ?_|refine zo rfl rfl (by first|exact trivial|(simp only[AllP];omega)|(simp(discharger:=omega)only[AllP,cA,cB];omega)|(simp only[AllP,cC,cD,cE,cF,cG];omega)) ?_|refine zn ?_|refine zb ?_|refine ze rfl ?_|refine zr ?_|refine zk ?_|refine zT rfl rfl rfl ?_|refine zU rfl rfl rfl ?_|refine zV rfl rfl rfl ?_|refine zf rfl ?_|refine zt rfl ?_)
    refine r_lastL follows_mixed rfl (by kernel_rfl) (by kernel_rfl) ?_
    dsimp only [List.dropLast]
    have hci : ∀ w', Sm w3 w' → w'.cell? ⟨b, 0 + i, none⟩ = some (I (k : Int)) := fun w' hs => by
      rw [Nat.zero_add]; exact hcell w' (h3.sm hs) _ _ hgi
    (repeat first|refine yo rfl rfl (by first|exact trivial|(simp only[AllP];omega)|(simp(discharger:=omega)only[AllP,cA,cB];omega)|(simp only[AllP,cC,cD,cE,cF,cG];omega)) ?_|refine yn ?_|refine q_know _ _ (some true) rfl rfl rfl ?_|refine q_know _ _ (some false) rfl rfl rfl ?_|refine q_know _ _ none rfl rfl rfl ?_)
    refine q_load rfl (fun w hs => (hs.blk h3.hdr).cell rfl) rfl rfl rfl rfl ?_
    (repeat first|refine yo rfl rfl (by first|exact trivial|(simp only[AllP];omega)|(simp(discharger:=omega)only[AllP,cA,cB];omega)|(simp only[AllP,cC,cD,cE,cF,cG];omega)) ?_|refine yn ?_|refine q_know _ _ (some true) rfl rfl rfl ?_|refine q_know _ _ (some false) rfl rfl rfl ?_|refine q_know _ _ none rfl rfl rfl ?_)
    refine q_load rfl hci rfl rfl rfl rfl ?_
    (repeat first|refine yo rfl rfl (by first|exact trivial|(simp only[AllP];omega)|(simp(discharger:=omega)only[AllP,cA,cB];omega)|(simp only[AllP,cC,cD,cE,cF,cG];omega)) ?_|refine yn ?_|refine q_know _ _ (some true) rfl rfl rfl ?_|refine q_know _ _ (some false) rfl rfl rfl ?_|refine q_know _ _ none rfl rfl rfl ?_)
    refine q_load rfl (fun w hs => (hs.blk h3.hdr).cell rfl) rfl rfl rfl rfl ?_
    (repeat first|refine yo rfl rfl (by first|exact trivial|(simp only[AllP];omega)|(simp(discharger:=omega)only[AllP,cA,cB];omega)|(simp only[AllP,cC,cD,cE,cF,cG];omega)) ?_|refine yn ?_|refine q_know _ _ (some true) rfl rfl rfl ?_|refine q_know _ _ (some false) rfl rfl rfl ?_|refine q_know _ _ none rfl rfl rfl ?_)
    refine q_load rfl hci rfl rfl rfl rfl ?_
    have hd64 := tdiv64 k
    (repeat first|refine yo rfl rfl (by first|exact trivial|(simp only[AllP];omega)|(simp(discharger:=omega)only[AllP,cA,cB];omega)|(simp only[AllP,cC,cD,cE,cF,cG];omega)) ?_|refine yn ?_|refine q_know _ _ (some true) rfl rfl rfl ?_|refine q_know _ _ (some false) rfl rfl rfl ?_|refine q_know _ _ none rfl rfl rfl ?_)
    have hco : ((owW N (l.take i)).map U)[k / 64]? = some (U ((owW N (l.take i)).getD (k / 64) 0)) := by
      rw [List.getElem?_map, List.getD_eq_getElem?_getD, List.getElem?_eq_getElem (by omega)]; rfl
    refine q_load (v := U ((owW N (l.take i)).getD (k / 64) 0)) rfl (fun w hs => ?_) rfl rfl rfl rfl ?_
    · show w.cell? ⟨bo, 0 + (Int.tdiv (k : Int) 64).toNat, none⟩ = _
      rw [hd64, Int.toNat_natCast, Nat.zero_add]
      exact (hs.blk hb3).cell hco
    (repeat first|refine yo rfl rfl (by first|exact trivial|(simp only[AllP];omega)|(simp(discharger:=omega)only[AllP,cA,cB];omega)|(simp only[AllP,cC,cD,cE,cF,cG];omega)) ?_|refine yn ?_|refine q_know _ _ (some true) rfl rfl rfl ?_|refine q_know _ _ (some false) rfl rfl rfl ?_|refine q_know _ _ none rfl rfl rfl ?_)
    intro w5 hs5
    have how := owW_take (n := N) hs (fun j hj => by have := hmax j hj; omega) (i + 1) (by omega)
    have htk : l.take (i + 1) = l.take i ++ [k] := by rw [List.take_add_one, List.getElem?_eq_getElem hlt, hk]; rfl
    rw [htk, owW_snoc] at how
    have hx : (owW N (l.take i)).getD (k / 64) 0 + 2 ^ (k % 64) < 2 ^ 64 := how.1 _ (List.mem_set (by omega) _)
    refine o_store (b := bo) (off := k / 64) (v := U ((owW N (l.take i)).getD (k / 64) 0 + 2 ^ (k % 64))) (c := none) ?_ (hs5.blk hb3) (by simp; omega) ?_ rfl rfl rfl rfl rfl ?_
    · show Value.pointer (some ⟨bo, 0 + (Int.tdiv (k : Int) 64).toNat, none⟩) = _
      rw [hd64, Int.toNat_natCast, Nat.zero_add]
    · have e1 : IntKind.u64.wrap ((((owW N (l.take i)).getD (k / 64) 0 : Nat) : Int) + ((2 ^ g : Nat) : Int)) = (((owW N (l.take i)).getD (k / 64) 0 + 2 ^ (k % 64) : Nat) : Int) := by
        rw [hgk, wrapU]
        generalize 2 ^ (k % 64) = y at hx ⊢
        omega
      exact congrArg (fun z => some (none, Value.int .u64 z)) e1
    intro w6 hu6
    (repeat first|refine zA ?_|refine zB ?_|refine zC ?_|refine zD ?_|refine zE ?_|refine zg ?_|refine zo rfl rfl (by first|exact trivial|(simp only[AllP];omega)|(simp(discharger:=omega)only[AllP,cA,cB];omega)|(simp only[AllP,cC,cD,cE,cF,cG];omega)) ?_|refine zn ?_|refine zb ?_|refine ze rfl ?_|refine zr ?_|refine zk ?_|refine zT rfl rfl rfl ?_|refine zU rfl rfl rfl ?_|refine zV rfl rfl rfl ?_|refine zf rfl ?_|refine zt rfl ?_)
    refine ⟨i + 1, rfl, ⟨?_, ?_, by omega⟩, by omega⟩
    · have := hu6.blk
      rw [← List.map_set, ← owW_snoc, ← htk] at this
      exact this
    · exact (k3.trans (hs5.kp [])).since (hu6.kp [bo] (.inl (by simp))) (by simp; omega)
end Go.Vc
