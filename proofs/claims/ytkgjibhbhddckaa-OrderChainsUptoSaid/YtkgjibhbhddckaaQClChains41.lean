/- order: an order or none; both answers as one. -/
import Derived.Test.YtkgjibhbhddckaaQClChains36
import Derived.Test.YtkgjibhbhddckaaQClChains40
namespace Go.Vc
open Go Go.Proofs
set_option maxRecDepth 10000
variable {w : World}
theorem OwnS.le_max {T : TypeId} {ad : Option Addr} {n cap size : Nat} {xs : List Value} (h : OwnS w T size ad n cap xs) : n ≤ maxLen := by
  cases ad with
  | none => have := h.2; simp only at this; omega
  | some ad => have h1 := h.2.2.2.1; have h2 := h.2.2.2.2.1; omega
theorem pastL_nil (ks : List Int) : pastL [] [] ks 0 = [] := rfl
theorem befI_nil (i j : Int) : befI [] [] i j = false := by
  rw [Bool.eq_false_iff]
  intro h
  have := befI_lt h
  simp at this; omega
theorem oPast_nil {ad : Option Addr} {n cap : Nat} : Ret Try.prog 12 [.pointer none, .slice ad n cap] w (fun v w' => v = .slice none 0 0 ∧ Kp [] w w') := by
  refine enter Try.call12 Try.func12 rfl rfl rfl rfl ?_
  (repeat first|refine zA ?_|refine zB ?_|refine zC ?_|refine zD ?_|refine zE ?_|refine zg ?_|refine zo rfl rfl (by first|exact trivial|(simp only[AllP];omega)|(simp(discharger:=omega)only[AllP,cA,cB];omega)|(simp only[AllP,cC,cD,cE,cF,cG];omega)) ?_|refine zn ?_|refine zb ?_|refine ze rfl ?_|refine zr ?_|refine zk ?_|refine zT rfl rfl rfl ?_|refine zU rfl rfl rfl ?_|refine zV rfl rfl rfl ?_|refine zf rfl ?_|refine zt rfl ?_)
  refine o_box rfl rfl rfl ?_
  intro bo w1 hbo hu1
  have hO1 : Blk w1 bo [.pointer none] 26 := hu1.blk
  have k1 : Kp [] w w1 := hu1.kp [] (.inr (by omega))
  (repeat first|refine zA ?_|refine zB ?_|refine zC ?_|refine zD ?_|refine zE ?_|refine zg ?_|refine zo rfl rfl (by first|exact trivial|(simp only[AllP];omega)|(simp(discharger:=omega)only[AllP,cA,cB];omega)|(simp only[AllP,cC,cD,cE,cF,cG];omega)) ?_|refine zn ?_|refine zb ?_|refine ze rfl ?_|refine zr ?_|refine zk ?_|refine zT rfl rfl rfl ?_|refine zU rfl rfl rfl ?_|refine zV rfl rfl rfl ?_|refine zf rfl ?_|refine zt rfl ?_)
  refine o_load rfl hO1 rfl rfl rfl rfl rfl ?_
  (repeat first|refine zA ?_|refine zB ?_|refine zC ?_|refine zD ?_|refine zE ?_|refine zg ?_|refine zo rfl rfl (by first|exact trivial|(simp only[AllP];omega)|(simp(discharger:=omega)only[AllP,cA,cB];omega)|(simp only[AllP,cC,cD,cE,cF,cG];omega)) ?_|refine zn ?_|refine zb ?_|refine ze rfl ?_|refine zr ?_|refine zk ?_|refine zT rfl rfl rfl ?_|refine zU rfl rfl rfl ?_|refine zV rfl rfl rfl ?_|refine zf rfl ?_|refine zt rfl ?_)
  refine o_call oLen_nil rfl rfl rfl ?_
  rintro v wx ⟨rfl, rfl⟩
  (repeat first|refine zA ?_|refine zB ?_|refine zC ?_|refine zD ?_|refine zE ?_|refine zg ?_|refine zo rfl rfl (by first|exact trivial|(simp only[AllP];omega)|(simp(discharger:=omega)only[AllP,cA,cB];omega)|(simp only[AllP,cC,cD,cE,cF,cG];omega)) ?_|refine zn ?_|refine zb ?_|refine ze rfl ?_|refine zr ?_|refine zk ?_|refine zT rfl rfl rfl ?_|refine zU rfl rfl rfl ?_|refine zV rfl rfl rfl ?_|refine zf rfl ?_|refine zt rfl ?_)
  refine r_loop (α := Unit) [5, 8, 9] (fun _ => [.slice none 0 0, I 0, I 0]) (fun _ wc => Kp [] w wc) (fun _ => 0) () rfl k1 ?_
  rintro _ e wc kc
  (repeat first|refine zA ?_|refine zB ?_|refine zC ?_|refine zD ?_|refine zE ?_|refine zg ?_|refine zo rfl rfl (by first|exact trivial|(simp only[AllP];omega)|(simp(discharger:=omega)only[AllP,cA,cB];omega)|(simp only[AllP,cC,cD,cE,cF,cG];omega)) ?_|refine zn ?_|refine zb ?_|refine ze rfl ?_|refine zr ?_|refine zk ?_|refine zT rfl rfl rfl ?_|refine zU rfl rfl rfl ?_|refine zV rfl rfl rfl ?_|refine zf rfl ?_|refine zt rfl ?_)
  exact ⟨_, rfl, rfl, kc⟩
theorem oChain_nil (i j : Int) : Ret Try.prog 15 [.pointer none, I i, I j] w (fun v w' => v = .slice none 0 0 ∧ w' = w) := by
  refine enter Try.call15 Try.func15 rfl rfl rfl rfl ?_
  (repeat first|refine zA ?_|refine zB ?_|refine zC ?_|refine zD ?_|refine zE ?_|refine zg ?_|refine zo rfl rfl (by first|exact trivial|(simp only[AllP];omega)|(simp(discharger:=omega)only[AllP,cA,cB];omega)|(simp only[AllP,cC,cD,cE,cF,cG];omega)) ?_|refine zn ?_|refine zb ?_|refine ze rfl ?_|refine zr ?_|refine zk ?_|refine zT rfl rfl rfl ?_|refine zU rfl rfl rfl ?_|refine zV rfl rfl rfl ?_|refine zf rfl ?_|refine zt rfl ?_)
  refine o_call (oBefore_nil i j) rfl rfl rfl ?_
  rintro v w1 ⟨rfl, rfl⟩
  (repeat first|refine zA ?_|refine zB ?_|refine zC ?_|refine zD ?_|refine zE ?_|refine zg ?_|refine zo rfl rfl (by first|exact trivial|(simp only[AllP];omega)|(simp(discharger:=omega)only[AllP,cA,cB];omega)|(simp only[AllP,cC,cD,cE,cF,cG];omega)) ?_|refine zn ?_|refine zb ?_|refine ze rfl ?_|refine zr ?_|refine zk ?_|refine zT rfl rfl rfl ?_|refine zU rfl rfl rfl ?_|refine zV rfl rfl rfl ?_|refine zf rfl ?_|refine zt rfl ?_)
  exact ⟨_, rfl, rfl, rfl⟩
theorem rPast_nil {ad : Option Addr} {n cap : Nat} : Ret Try.prog 13 [.pointer none, .slice ad n cap] w (fun v w' => v = .slice none 0 0 ∧ w' = w) := by
  refine enter Try.call13 Try.func13 rfl rfl rfl rfl ?_
  (repeat first|refine zA ?_|refine zB ?_|refine zC ?_|refine zD ?_|refine zE ?_|refine zg ?_|refine zo rfl rfl (by first|exact trivial|(simp only[AllP];omega)|(simp(discharger:=omega)only[AllP,cA,cB];omega)|(simp only[AllP,cC,cD,cE,cF,cG];omega)) ?_|refine zn ?_|refine zb ?_|refine ze rfl ?_|refine zr ?_|refine zk ?_|refine zT rfl rfl rfl ?_|refine zU rfl rfl rfl ?_|refine zV rfl rfl rfl ?_|refine zf rfl ?_|refine zt rfl ?_)
  refine r_loop (α := Unit) [0, 5, 6] (fun _ => [.pointer none, .slice none 0 0, I 0]) (fun _ wc => w = wc) (fun _ => 0) () rfl rfl ?_
  rintro _ e _ rfl
  (repeat first|refine zA ?_|refine zB ?_|refine zC ?_|refine zD ?_|refine zE ?_|refine zg ?_|refine zo rfl rfl (by first|exact trivial|(simp only[AllP];omega)|(simp(discharger:=omega)only[AllP,cA,cB];omega)|(simp only[AllP,cC,cD,cE,cF,cG];omega)) ?_|refine zn ?_|refine zb ?_|refine ze rfl ?_|refine zr ?_|refine zk ?_|refine zT rfl rfl rfl ?_|refine zU rfl rfl rfl ?_|refine zV rfl rfl rfl ?_|refine zf rfl ?_|refine zt rfl ?_)
  refine o_call rLen_nil rfl rfl rfl ?_
  rintro v wx ⟨rfl, rfl⟩
  (repeat first|refine zA ?_|refine zB ?_|refine zC ?_|refine zD ?_|refine zE ?_|refine zg ?_|refine zo rfl rfl (by first|exact trivial|(simp only[AllP];omega)|(simp(discharger:=omega)only[AllP,cA,cB];omega)|(simp only[AllP,cC,cD,cE,cF,cG];omega)) ?_|refine zn ?_|refine zb ?_|refine ze rfl ?_|refine zr ?_|refine zk ?_|refine zT rfl rfl rfl ?_|refine zU rfl rfl rfl ?_|refine zV rfl rfl rfl ?_|refine zf rfl ?_|refine zt rfl ?_)
  exact ⟨_, rfl, rfl, rfl⟩
theorem rChain_nil (i j : Int) : Ret Try.prog 16 [.pointer none, I i, I j] w (fun v w' => v = .slice none 0 0 ∧ w' = w) := by
  refine enter Try.call16 Try.func16 rfl rfl rfl rfl ?_
  (repeat first|refine zA ?_|refine zB ?_|refine zC ?_|refine zD ?_|refine zE ?_|refine zg ?_|refine zo rfl rfl (by first|exact trivial|(simp only[AllP];omega)|(simp(discharger:=omega)only[AllP,cA,cB];omega)|(simp only[AllP,cC,cD,cE,cF,cG];omega)) ?_|refine zn ?_|refine zb ?_|refine ze rfl ?_|refine zr ?_|refine zk ?_|refine zT rfl rfl rfl ?_|refine zU rfl rfl rfl ?_|refine zV rfl rfl rfl ?_|refine zf rfl ?_|refine zt rfl ?_)
  refine o_call (rHappens_nil i j) rfl rfl rfl ?_
  rintro v w1 ⟨rfl, rfl⟩
  (repeat first|refine zA ?_|refine zB ?_|refine zC ?_|refine zD ?_|refine zE ?_|refine zg ?_|refine zo rfl rfl (by first|exact trivial|(simp only[AllP];omega)|(simp(discharger:=omega)only[AllP,cA,cB];omega)|(simp only[AllP,cC,cD,cE,cF,cG];omega)) ?_|refine zn ?_|refine zb ?_|refine ze rfl ?_|refine zr ?_|refine zk ?_|refine zT rfl rfl rfl ?_|refine zU rfl rfl rfl ?_|refine zV rfl rfl rfl ?_|refine zf rfl ?_|refine zt rfl ?_)
  exact ⟨_, rfl, rfl, rfl⟩
def OaV (w : World) (v : Value) (E : List Ev) (R : List Int) : Prop := (v = .pointer none ∧ E = [] ∧ R = []) ∨ ∃ g, v = ptr g.p ∧ OrAt w g E R
def RaV (w : World) (v : Value) (E : List Ev) (R : List Int) : Prop := (v = .pointer none ∧ E = [] ∧ R = []) ∨ ∃ g, v = ptr g.p ∧ RrAt w g E R
theorem OaV.kp0 {w' : World} {v : Value} {E : List Ev} {R : List Int} (h : OaV w v E R) (hk : Kp [] w w') : OaV w' v E R := by
  rcases h with h | ⟨g, h1, h2⟩
  · exact .inl h
  · exact .inr ⟨g, h1, h2.kp0 hk⟩
theorem RaV.kp0 {w' : World} {v : Value} {E : List Ev} {R : List Int} (h : RaV w v E R) (hk : Kp [] w w') : RaV w' v E R := by
  rcases h with h | ⟨g, h1, h2⟩
  · exact .inl h
  · exact .inr ⟨g, h1, h2.kp0 hk⟩
def ChainV (E : List Ev) (R : List Int) (i j : Int) (l : List Nat) : Prop := (befI E R i j = false ∧ l = []) ∨ (befI E R i j = true ∧ ChainR (lk E R) j.toNat i.toNat l)
theorem ChainV.uniq {E : List Ev} {R : List Int} {i j : Int} {l l' : List Nat} (h : ChainV E R i j l) (g : ChainV E R i j l') : l = l' := by
  rcases h with ⟨h1, rfl⟩ | ⟨h1, h2⟩
  · rcases g with ⟨_, rfl⟩ | ⟨g1, _⟩
    · rfl
    · rw [h1] at g1; cases g1
  · rcases g with ⟨g1, _⟩ | ⟨_, g2⟩
    · rw [h1] at g1; cases g1
    · exact h2.uniq g2
section
variable {v0 : Value} {E : List Ev} {R : List Int}
theorem newS_nil : NewS w 3 w none 0 0 [] := ⟨ownS_nil _ _ _, Kp.refl _ _, by simp [blkOf]⟩
theorem oPast_any (h : OaV w v0 E R) {ad : Option Addr} {ks : List Int} {n cap : Nat} (hr : ReadS w ad (ks.map I)) (hn : ks.length = n) (hl : n ≤ 1048576) :
    Ret Try.prog 12 [v0, .slice ad n cap] w (fun v w' => ∃ ad' cap', v = .slice ad' (pastL E R ks E.length).length cap' ∧ NewS w 3 w' ad' (pastL E R ks E.length).length cap' ((pastL E R ks E.length).map I)) := by
  subst hn
  rcases h with ⟨rfl, rfl, rfl⟩ | ⟨g, rfl, h⟩
  · exact oPast_nil.mono fun v w' ⟨h1, h2⟩ => ⟨none, 0, h1, ownS_nil _ _ _, h2, by simp [blkOf]⟩
  · exact oPast_ret h hr hl
theorem rPast_any (h : RaV w v0 E R) {ad : Option Addr} {ks : List Int} {n cap : Nat} (hr : ReadS w ad (ks.map I)) (hn : ks.length = n) (hl : n ≤ 1048576) :
    Ret Try.prog 13 [v0, .slice ad n cap] w (fun v w' => ∃ ad' cap', v = .slice ad' (pastL E R ks E.length).length cap' ∧ NewS w 3 w' ad' (pastL E R ks E.length).length cap' ((pastL E R ks E.length).map I)) := by
  subst hn
  rcases h with ⟨rfl, rfl, rfl⟩ | ⟨g, rfl, h⟩
  · exact rPast_nil.mono fun v w' ⟨h1, h2⟩ => ⟨none, 0, h1, by subst h2; exact newS_nil⟩
  · exact rPast_ret h hr hl
theorem oChain_any (h : OaV w v0 E R) (i j : Int) : Ret Try.prog 15 [v0, I i, I j] w (fun v w' => ∃ l ad cap, ChainV E R i j l ∧ v = .slice ad l.length cap ∧ NewS w 3 w' ad l.length cap ((l.map fun n : Nat => (n : Int)).map I)) := by
  rcases h with ⟨rfl, rfl, rfl⟩ | ⟨g, rfl, h⟩
  · exact (oChain_nil i j).mono fun v w' ⟨h1, h2⟩ => ⟨[], none, 0, .inl ⟨befI_nil i j, rfl⟩, h1, by subst h2; exact newS_nil⟩
  · refine (oChain_ret h i j).mono fun v w' hh => ?_
    rcases hh with ⟨h1, h2, rfl⟩ | ⟨h1, l, ad, cap, h2, h3, h4⟩
    · exact ⟨[], none, 0, .inl ⟨h1, rfl⟩, h2, newS_nil⟩
    · exact ⟨l, ad, cap, .inr ⟨h1, h2⟩, h3, by rw [List.map_map]; exact h4⟩
theorem rChain_any (h : RaV w v0 E R) (i j : Int) : Ret Try.prog 16 [v0, I i, I j] w (fun v w' => ∃ l ad cap, ChainV E R i j l ∧ v = .slice ad l.length cap ∧ NewS w 3 w' ad l.length cap ((l.map fun n : Nat => (n : Int)).map I)) := by
  rcases h with ⟨rfl, rfl, rfl⟩ | ⟨g, rfl, h⟩
  · exact (rChain_nil i j).mono fun v w' ⟨h1, h2⟩ => ⟨[], none, 0, .inl ⟨befI_nil i j, rfl⟩, h1, by subst h2; exact newS_nil⟩
  · refine (rChain_ret h i j).mono fun v w' hh => ?_
    rcases hh with ⟨h1, h2, rfl⟩ | ⟨h1, l, ad, cap, h2, h3, h4⟩
    · exact ⟨[], none, 0, .inl ⟨h1, rfl⟩, h2, newS_nil⟩
    · exact ⟨l, ad, cap, .inr ⟨h1, h2⟩, h3, by rw [List.map_map]; exact h4⟩
end
theorem badO_uniq {s : Shp} {l : List Ev} {e f : Int} (h : badO s l e) (g : badO s l f) : e = f := by
  rcases h with ⟨rfl, h⟩ | ⟨rfl, h, h2⟩ | ⟨rfl, h, h2, _⟩ <;> rcases g with ⟨rfl, g⟩ | ⟨rfl, g, g2⟩ | ⟨rfl, g, g2, _⟩ <;> first | rfl | (exfalso; omega) | (rw [h] at g; cases g)
theorem badO_not {s : Shp} {l : List Ev} {e : Int} (h : badO s l e) (h1 : shapeB s = true) (h2 : l.length ≤ 2048) (h3 : okTo s l l.length) : False := by
  rcases h with ⟨rfl, h⟩ | ⟨rfl, _, h⟩ | ⟨rfl, _, _, h⟩
  · rw [h1] at h; cases h
  · omega
  · exact h h3
theorem badO_ne {s : Shp} {l : List Ev} {e : Int} (h : badO s l e) : e = 5 ∨ e = 3 ∨ e = 6 := by
  rcases h with ⟨rfl, _⟩ | ⟨rfl, _⟩ | ⟨rfl, _⟩ <;> omega
end Go.Vc
