/- bits: Of; the document's Words; sameWords. -/
import Derived.Test.YtkgjibhbhddckaaDoorBt14
namespace Go.Vc
open Go Go.Proofs
set_option maxRecDepth 10000
variable {w : World}

/-! ### A set of any length, and trim -/
structure SetB (w : World) (p : Nat) (ws : List Nat) (ad : Option Addr) (cap : Nat) : Prop where
  hdr : Blk w p [B true, .slice ad ws.length cap] 150
  own : OwnS w 151 1 ad ws.length cap (ws.map U)
  ok : WOk ws
  len : ws.length ≤ 17592186044416
  far : 0 ∉ p :: blkOf ad
section
variable {p : Nat} {ws : List Nat} {ad : Option Addr} {cap : Nat}
theorem SetB.p_ad (h : SetB w p ws ad cap) : p ∉ blkOf ad := by
  intro hb
  have h1 := h.hdr; have h2 := h.own.2
  cases ad with
  | none => simp [blkOf] at hb
  | some ad =>
    simp [blkOf] at hb; subst hb
    obtain ⟨_, _, _, _, junk, h5, _⟩ := h2
    unfold Blk at h1 h5; rw [h1] at h5; simp at h5
theorem SetB.sm {w' : World} (h : SetB w p ws ad cap) (hs : Sm w w') : SetB w' p ws ad cap := ⟨hs.blk h.hdr, h.own.sm hs, h.ok, h.len, h.far⟩
theorem SetB.blk (h : SetB w p ws ad cap) (hne : 0 < ws.length) : ∃ b junk, ad = some ⟨b, 0, none⟩ ∧ Blk w b (ws.map U ++ junk) 151 := by
  cases ad with
  | none => have := h.own.2.1; omega
  | some ad =>
    obtain ⟨b, off, spot⟩ := ad
    obtain ⟨h1, h2, _, _, junk, h5, _⟩ := h.own.2
    cases h1; cases h2
    exact ⟨b, junk, rfl, h5⟩
theorem trimB_ret (h : SetB w p ws ad cap) :
    Ret Tryd.prog 67 [ptr p] w (fun v w' => v = .tuple #[] ∧ SetB w' p (trim ws) ad cap ∧ Kp [p] w w') := by
  have hlen := h.len
  refine enter Tryd.call67 Tryd.func67 rfl rfl rfl rfl ?_
  (repeat first|refine zA ?_|refine zB ?_|refine zC ?_|refine zD ?_|refine zE ?_|refine zg ?_|refine zo rfl rfl (by first|exact trivial|(simp only[AllP];omega)|(simp(discharger:=omega)only[AllP,cA,cB];omega)|(simp only[AllP,cC,cD,cE,cF,cG];omega)) ?_|refine zn ?_|refine zb ?_|refine ze rfl ?_|refine zr ?_|refine zk ?_|refine zT rfl rfl rfl ?_|refine zU rfl rfl rfl ?_|refine zV rfl rfl rfl ?_|refine zf rfl ?_|refine zt rfl ?_)
  refine o_load rfl h.hdr rfl rfl rfl rfl rfl ?_
  (repeat first|refine zA ?_|refine zB ?_|refine zC ?_|refine zD ?_|refine zE ?_|refine zg ?_|refine zo rfl rfl (by first|exact trivial|(simp only[AllP];omega)|(simp(discharger:=omega)only[AllP,cA,cB];omega)|(simp only[AllP,cC,cD,cE,cF,cG];omega)) ?_|refine zn ?_|refine zb ?_|refine ze rfl ?_|refine zr ?_|refine zk ?_|refine zT rfl rfl rfl ?_|refine zU rfl rfl rfl ?_|refine zV rfl rfl rfl ?_|refine zf rfl ?_|refine zt rfl ?_)
  refine r_loop (α := Nat) [0, 2] (fun g => [ptr p, I g]) (fun g w1 => Sm w w1 ∧ g ≤ ws.length ∧ trim (ws.take g) = trim ws) (fun g => g) ws.length rfl ⟨Sm.refl _, Nat.le_refl _, by simp⟩ ?_
  rintro g e w1 ⟨hs, hg, htr⟩
  have h1 := h.sm hs
  (repeat first|refine zA ?_|refine zB ?_|refine zC ?_|refine zD ?_|refine zE ?_|refine zg ?_|refine zo rfl rfl (by first|exact trivial|(simp only[AllP];omega)|(simp(discharger:=omega)only[AllP,cA,cB];omega)|(simp only[AllP,cC,cD,cE,cF,cG];omega)) ?_|refine zn ?_|refine zb ?_|refine ze rfl ?_|refine zr ?_|refine zk ?_|refine zT rfl rfl rfl ?_|refine zU rfl rfl rfl ?_|refine zV rfl rfl rfl ?_|refine zf rfl ?_|refine zt rfl ?_)
  have hcap := h.own.le_cap
  refine o_bool [0, 2] [ptr p, I g] 20 (decide (0 < g ∧ ws.getD (g - 1) 0 = 0)) (fun w => w = w1) ?_ ?_
  · refine o_split 2 true rfl rfl rfl (fun hb => ?_) (fun hb => ?_)
    · have hb' : 0 < g := by simpa using hb
      (repeat first|refine zo rfl rfl (by first|exact trivial|(simp only[AllP];omega)|(simp(discharger:=omega)only[AllP,cA,cB];omega)|(simp only[AllP,cC,cD,cE,cF,cG];omega)) ?_|refine zn ?_|refine zT rfl rfl rfl ?_|refine zU rfl rfl rfl ?_|refine zV rfl rfl rfl ?_)
      refine o_load rfl h1.hdr rfl rfl rfl rfl rfl ?_
      obtain ⟨b, junk, rfl, hblk⟩ := h1.blk (by omega)
      (repeat first|refine zo rfl rfl (by first|exact trivial|(simp only[AllP];omega)|(simp(discharger:=omega)only[AllP,cA,cB];omega)|(simp only[AllP,cC,cD,cE,cF,cG];omega)) ?_|refine zn ?_|refine zT rfl rfl rfl ?_|refine zU rfl rfl rfl ?_|refine zV rfl rfl rfl ?_)
      refine o_loadc (v := U (ws.getD (g - 1) 0)) rfl ?_ rfl rfl rfl rfl ?_
      · show w1.cell? ⟨b, 0 + ((g : Int) - 1).toNat, none⟩ = _
        have e1 : 0 + ((g : Int) - 1).toNat = g - 1 := by omega
        rw [e1]
        refine hblk.cell ?_
        have hlt : g - 1 < ws.length := by omega
        rw [List.getElem?_append_left (by simpa using hlt), List.getElem?_map, List.getD_eq_getElem?_getD, List.getElem?_eq_getElem hlt]; rfl
      (repeat first|refine zo rfl rfl (by first|exact trivial|(simp only[AllP];omega)|(simp(discharger:=omega)only[AllP,cA,cB];omega)|(simp only[AllP,cC,cD,cE,cF,cG];omega)) ?_|refine zn ?_|refine zT rfl rfl rfl ?_|refine zU rfl rfl rfl ?_|refine zV rfl rfl rfl ?_)
      refine ⟨rfl, ⟨_, rfl, ?_⟩, rfl⟩
      simp only [hb', true_and, decide_eq_decide]
      omega
    · have hb' : ¬ 0 < g := by simpa using hb
      (repeat first|refine zo rfl rfl (by first|exact trivial|(simp only[AllP];omega)|(simp(discharger:=omega)only[AllP,cA,cB];omega)|(simp only[AllP,cC,cD,cE,cF,cG];omega)) ?_|refine zn ?_|refine zT rfl rfl rfl ?_|refine zU rfl rfl rfl ?_|refine zV rfl rfl rfl ?_)
      exact ⟨rfl, ⟨_, rfl, by simp [hb']⟩, rfl⟩
  rintro e w2 rfl
  refine r_if rfl (fun hc => ?_) (fun hc => ?_)
  · have e1 : ws.take g = ws.take (g - 1) ++ [0] := by
      have hlt : g - 1 < ws.length := by omega
      have h2 : ws[g - 1]? = some 0 := by rw [List.getElem?_eq_getElem hlt]; have := hc.2; rw [List.getD_eq_getElem?_getD, List.getElem?_eq_getElem hlt] at this; simpa using this
      have h3 : g = g - 1 + 1 := by omega
      rw [h3, List.take_add_one, h2]; rfl
    (repeat first|refine zA ?_|refine zB ?_|refine zC ?_|refine zD ?_|refine zE ?_|refine zg ?_|refine zo rfl rfl (by first|exact trivial|(simp only[AllP];omega)|(simp(discharger:=omega)only[AllP,cA,cB];omega)|(simp only[AllP,cC,cD,cE,cF,cG];omega)) ?_|refine zn ?_|refine zb ?_|refine ze rfl ?_|refine zr ?_|refine zk ?_|refine zT rfl rfl rfl ?_|refine zU rfl rfl rfl ?_|refine zV rfl rfl rfl ?_|refine zf rfl ?_|refine zt rfl ?_)
    refine ⟨g - 1, ?_, ⟨hs, by omega, by rw [← htr, e1, trim_snoc0]⟩, by omega⟩
    have : ((g : Int) - 1) = ((g - 1 : Nat) : Int) := by omega
    exact congrArg (fun z => [ptr p, I z]) this
  · have e1 : trim ws = ws.take g := by
      rw [← htr]
      by_cases h0 : 0 < g
      · have hlt : g - 1 < ws.length := by omega
        have h3 : g = g - 1 + 1 := by omega
        have h2 : ws.take g = ws.take (g - 1) ++ [ws.getD (g - 1) 0] := by
          conv => lhs; rw [h3, List.take_add_one, List.getElem?_eq_getElem hlt]
          rw [List.getD_eq_getElem?_getD, List.getElem?_eq_getElem hlt]; rfl
        rw [h2]; exact trim_snoc (fun hz => hc ⟨h0, hz⟩)
      · have : g = 0 := by omega
        subst this; rfl
    (repeat first|refine zA ?_|refine zB ?_|refine zC ?_|refine zD ?_|refine zE ?_|refine zg ?_|refine zo rfl rfl (by first|exact trivial|(simp only[AllP];omega)|(simp(discharger:=omega)only[AllP,cA,cB];omega)|(simp only[AllP,cC,cD,cE,cF,cG];omega)) ?_|refine zn ?_|refine zb ?_|refine ze rfl ?_|refine zr ?_|refine zk ?_|refine zT rfl rfl rfl ?_|refine zU rfl rfl rfl ?_|refine zV rfl rfl rfl ?_|refine zf rfl ?_|refine zt rfl ?_)
    refine o_load rfl h1.hdr rfl rfl rfl rfl rfl ?_
    (repeat first|refine zA ?_|refine zB ?_|refine zC ?_|refine zD ?_|refine zE ?_|refine zg ?_|refine zo rfl rfl (by first|exact trivial|(simp only[AllP];omega)|(simp(discharger:=omega)only[AllP,cA,cB];omega)|(simp only[AllP,cC,cD,cE,cF,cG];omega)) ?_|refine zn ?_|refine zb ?_|refine ze rfl ?_|refine zr ?_|refine zk ?_|refine zT rfl rfl rfl ?_|refine zU rfl rfl rfl ?_|refine zV rfl rfl rfl ?_|refine zf rfl ?_|refine zt rfl ?_)
    refine o_store rfl h1.hdr (by simp) rfl rfl rfl rfl rfl rfl ?_
    intro w3 hu
    (repeat first|refine zA ?_|refine zB ?_|refine zC ?_|refine zD ?_|refine zE ?_|refine zg ?_|refine zo rfl rfl (by first|exact trivial|(simp only[AllP];omega)|(simp(discharger:=omega)only[AllP,cA,cB];omega)|(simp only[AllP,cC,cD,cE,cF,cG];omega)) ?_|refine zn ?_|refine zb ?_|refine ze rfl ?_|refine zr ?_|refine zk ?_|refine zT rfl rfl rfl ?_|refine zU rfl rfl rfl ?_|refine zV rfl rfl rfl ?_|refine zf rfl ?_|refine zt rfl ?_)
    refine ⟨_, rfl, rfl, ?_, (hs.kp _).trans (hu.kp [p] (.inl (by simp)))⟩
    rw [e1]
    have hl : g = (ws.take g).length := by simp; omega
    have hp := h.p_ad
    refine ⟨?_, ?_, fun x hx => h.ok x (List.mem_of_mem_take hx), by simp; omega, h.far⟩
    · have := hu.blk; rw [← hl]; exact this
    · have := ((h.own.sm hs).take hg).upd hu hp
      rw [← List.map_take] at this
      rw [← hl]; exact this
end

/-! ### The document's Words -/
theorem shl_weight {k : Nat} (hk : k < 63) : IntKind.u64.wrap (((2 ^ k : Nat) : Int) * 2) = ((2 ^ (k + 1) : Nat) : Int) := by
  rw [wrapU, Nat.pow_succ]
  have : 2 ^ k < 2 ^ 63 := Nat.pow_lt_pow_right (by omega) hk
  generalize 2 ^ k = z at this ⊢
  omega
end Go.Vc
