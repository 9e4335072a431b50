/- bits: Join. -/
import Derived.Test.YtdfkhnhmcanncaaDoorBt11
namespace Go.Vc
open Go Go.Proofs
set_option maxRecDepth 10000
variable {w : World}

def joinW (ws vs : List Nat) : List Nat := updW (· ||| ·) (growW ws vs.length) vs vs.length
def moreN (ws vs : List Nat) (n : Nat) : Bool := (List.range n).any fun i => decide (andn (vs.getD i 0) (ws.getD i 0) ≠ 0)
def joinStep (p : Nat) (F : Nat → List Nat) (s : List Nat × Bool) (q : Nat) : List Nat × Bool :=
  (joinW s.1 (if q = p then s.1 else F q), s.2 || moreN (growW s.1 (if q = p then s.1 else F q).length) (if q = p then s.1 else F q) (if q = p then s.1 else F q).length)
theorem moreN_succ (ws vs : List Nat) (n : Nat) : moreN ws vs (n + 1) = (moreN ws vs n || decide (andn (vs.getD n 0) (ws.getD n 0) ≠ 0)) := by
  unfold moreN; rw [List.range_succ, List.any_append]; simp
/-- another set, or the set itself -/
structure OtherAt (w0 : World) (p : Nat) (ad : Option Addr) (F : Nat → List Nat) (q : Nat) : Prop where
  at_ : q = p ∨ ∃ bd bap, SetAt w0 q (F q) bd bap ∧ Apart p ad q bd

theorem OtherAt.now {w : World} {p : Nat} {ad : Option Addr} {F : Nat → List Nat} {q : Nat} (hq : OtherAt w p ad F q) (us : List Nat) (ad2 : Option Addr) (cap2 : Nat) :
    ∃ bd bap, ∀ w5 us5, SetTo w p ad w5 us5 ad2 cap2 → (q = p → us5 = us) → SetAt w5 q (if q = p then us else F q) bd bap := by
  by_cases hqp : q = p
  · exact ⟨ad2, cap2, fun w5 us5 hto h => by rw [if_pos hqp, ← h hqp, hqp]; exact hto.at_⟩
  · rcases hq.at_ with h | ⟨bd, bap, h1, h2⟩
    · exact absurd h hqp
    · exact ⟨bd, bap, fun w5 us5 hto _ => by rw [if_neg hqp]; exact hto.other h2 h1⟩
theorem growW_self (us : List Nat) : growW us us.length = us := by simp [growW]
theorem updW_or_self (us : List Nat) (i : Nat) : updW (· ||| ·) us us i = us := by
  have : updW (· ||| ·) us us i = updW (· ||| ·) us us 0 := by
    unfold updW
    apply List.map_congr_left
    intro j _
    simp
  rw [this, updW_zero]
theorem growW_len (us : List Nat) (n : Nat) : (growW us n).length = max us.length n := by unfold growW; simp; omega

theorem Join_ret (hT : TabW w) {p : Nat} {ws : List Nat} {ad : Option Addr} {cap : Nat} (h : SetAt w p ws ad cap) {ao : Option Addr} {qs : List Nat} {co : Nat} (hr : ReadS w ao (qs.map ptr)) (hao : ∀ b, b ∈ blkOf ao → b ∉ p :: blkOf ad) (hlq : qs.length ≤ 9223372036854775807)
    (F : Nat → List Nat) (hq : ∀ q, q ∈ qs → OtherAt w p ad F q) :
    Ret Tryd.prog 47 [ptr p, .slice ao qs.length co] w (fun v w' => v = .tuple #[.bool (qs.foldl (joinStep p F) (ws, false)).2, I 0] ∧ ∃ ad' cap', SetTo w p ad w' (qs.foldl (joinStep p F) (ws, false)).1 ad' cap') := by
  refine enter Tryd.call47 Tryd.func47 rfl rfl rfl rfl ?_
  (repeat first|refine zA ?_|refine zB ?_|refine zC ?_|refine zD ?_|refine zE ?_|refine zg ?_|refine zo rfl rfl (by first|exact trivial|(simp only[AllP];omega)|(simp(discharger:=omega)only[AllP,cA,cB];omega)|(simp only[AllP,cC,cD,cE,cF,cG];omega)) ?_|refine zn ?_|refine zb ?_|refine ze rfl ?_|refine zr ?_|refine zk ?_|refine zT rfl rfl rfl ?_|refine zU rfl rfl rfl ?_|refine zV rfl rfl rfl ?_|refine zf rfl ?_|refine zt rfl ?_)
  refine o_call (there_ret h) rfl rfl rfl ?_
  rintro v w1 ⟨rfl, rfl⟩
  (repeat first|refine zA ?_|refine zB ?_|refine zC ?_|refine zD ?_|refine zE ?_|refine zg ?_|refine zo rfl rfl (by first|exact trivial|(simp only[AllP];omega)|(simp(discharger:=omega)only[AllP,cA,cB];omega)|(simp only[AllP,cC,cD,cE,cF,cG];omega)) ?_|refine zn ?_|refine zb ?_|refine ze rfl ?_|refine zr ?_|refine zk ?_|refine zT rfl rfl rfl ?_|refine zU rfl rfl rfl ?_|refine zV rfl rfl rfl ?_|refine zf rfl ?_|refine zt rfl ?_)
  refine r_loop (α := Nat) [0, 1, 16, 17, 18] (fun i => [ptr p, .slice ao qs.length co, .slice ao qs.length co, I qs.length, I i]) (fun i w2 => w1 = w2 ∧ i ≤ qs.length) (fun i => qs.length - i) 0 rfl ⟨rfl, by omega⟩ ?_
  rintro i e w2 ⟨rfl, hi⟩
  (repeat first|refine zA ?_|refine zB ?_|refine zC ?_|refine zD ?_|refine zE ?_|refine zg ?_|refine zo rfl rfl (by first|exact trivial|(simp only[AllP];omega)|(simp(discharger:=omega)only[AllP,cA,cB];omega)|(simp only[AllP,cC,cD,cE,cF,cG];omega)) ?_|refine zn ?_|refine zb ?_|refine ze rfl ?_|refine zr ?_|refine zk ?_|refine zT rfl rfl rfl ?_|refine zU rfl rfl rfl ?_|refine zV rfl rfl rfl ?_|refine zf rfl ?_|refine zt rfl ?_)
  refine r_if rfl (fun hc => ?_) (fun hc => ?_)
  · have hlt : i < qs.length := by omega
    obtain ⟨b, o, rfl, _, hcell⟩ := hr.at_ (by simp; omega)
    (repeat first|refine zA ?_|refine zB ?_|refine zC ?_|refine zD ?_|refine zE ?_|refine zg ?_|refine zo rfl rfl (by first|exact trivial|(simp only[AllP];omega)|(simp(discharger:=omega)only[AllP,cA,cB];omega)|(simp only[AllP,cC,cD,cE,cF,cG];omega)) ?_|refine zn ?_|refine zb ?_|refine ze rfl ?_|refine zr ?_|refine zk ?_|refine zT rfl rfl rfl ?_|refine zU rfl rfl rfl ?_|refine zV rfl rfl rfl ?_|refine zf rfl ?_|refine zt rfl ?_)
    refine o_loadc (v := ptr qs[i]) rfl (hcell i _ (by simp [hlt])) rfl rfl rfl rfl ?_
    (repeat first|refine zA ?_|refine zB ?_|refine zC ?_|refine zD ?_|refine zE ?_|refine zg ?_|refine zo rfl rfl (by first|exact trivial|(simp only[AllP];omega)|(simp(discharger:=omega)only[AllP,cA,cB];omega)|(simp only[AllP,cC,cD,cE,cF,cG];omega)) ?_|refine zn ?_|refine zb ?_|refine ze rfl ?_|refine zr ?_|refine zk ?_|refine zT rfl rfl rfl ?_|refine zU rfl rfl rfl ?_|refine zV rfl rfl rfl ?_|refine zf rfl ?_|refine zt rfl ?_)
    have hth : Ret Tryd.prog 61 [ptr qs[i]] w1 (fun v w' => v = .bool true ∧ w' = w1) := by
      rcases (hq qs[i] (List.getElem_mem hlt)).at_ with e1 | ⟨bd, bap, hs, _⟩
      · rw [e1]; exact there_ret h
      · exact there_ret hs
    refine o_call hth rfl rfl rfl ?_
    rintro v w3 ⟨rfl, rfl⟩
    (repeat first|refine zA ?_|refine zB ?_|refine zC ?_|refine zD ?_|refine zE ?_|refine zg ?_|refine zo rfl rfl (by first|exact trivial|(simp only[AllP];omega)|(simp(discharger:=omega)only[AllP,cA,cB];omega)|(simp only[AllP,cC,cD,cE,cF,cG];omega)) ?_|refine zn ?_|refine zb ?_|refine ze rfl ?_|refine zr ?_|refine zk ?_|refine zT rfl rfl rfl ?_|refine zU rfl rfl rfl ?_|refine zV rfl rfl rfl ?_|refine zf rfl ?_|refine zt rfl ?_)
    exact ⟨i + 1, rfl, ⟨rfl, by omega⟩, by omega⟩
  (repeat first|refine zA ?_|refine zB ?_|refine zC ?_|refine zD ?_|refine zE ?_|refine zg ?_|refine zo rfl rfl (by first|exact trivial|(simp only[AllP];omega)|(simp(discharger:=omega)only[AllP,cA,cB];omega)|(simp only[AllP,cC,cD,cE,cF,cG];omega)) ?_|refine zn ?_|refine zb ?_|refine ze rfl ?_|refine zr ?_|refine zk ?_|refine zT rfl rfl rfl ?_|refine zU rfl rfl rfl ?_|refine zV rfl rfl rfl ?_|refine zf rfl ?_|refine zt rfl ?_)
  refine r_loop (α := Nat × Option Addr × Nat) [0, 8, 26, 27, 28] (fun g => [ptr p, .bool ((qs.take g.1).foldl (joinStep p F) (ws, false)).2, .slice ao qs.length co, I qs.length, I g.1]) (fun g w2 => SetTo w1 p ad w2 ((qs.take g.1).foldl (joinStep p F) (ws, false)).1 g.2.1 g.2.2 ∧ g.1 ≤ qs.length) (fun g => qs.length - g.1) (0, ad, cap) rfl ⟨SetTo.refl h, by omega⟩ ?_
  rintro ⟨i, ad1, cap1⟩ e w2 ⟨hto, hi⟩
  dsimp only at hto hi ⊢
  (repeat first|refine zA ?_|refine zB ?_|refine zC ?_|refine zD ?_|refine zE ?_|refine zg ?_|refine zo rfl rfl (by first|exact trivial|(simp only[AllP];omega)|(simp(discharger:=omega)only[AllP,cA,cB];omega)|(simp only[AllP,cC,cD,cE,cF,cG];omega)) ?_|refine zn ?_|refine zb ?_|refine ze rfl ?_|refine zr ?_|refine zk ?_|refine zT rfl rfl rfl ?_|refine zU rfl rfl rfl ?_|refine zV rfl rfl rfl ?_|refine zf rfl ?_|refine zt rfl ?_)
  refine r_if rfl (fun hc2 => ?_) (fun hc2 => ?_)
  rotate_left
  · have : i = qs.length := by omega
    subst this
    rw [List.take_length] at hto
    rw [List.take_length]
    (repeat first|refine zA ?_|refine zB ?_|refine zC ?_|refine zD ?_|refine zE ?_|refine zg ?_|refine zo rfl rfl (by first|exact trivial|(simp only[AllP];omega)|(simp(discharger:=omega)only[AllP,cA,cB];omega)|(simp only[AllP,cC,cD,cE,cF,cG];omega)) ?_|refine zn ?_|refine zb ?_|refine ze rfl ?_|refine zr ?_|refine zk ?_|refine zT rfl rfl rfl ?_|refine zU rfl rfl rfl ?_|refine zV rfl rfl rfl ?_|refine zf rfl ?_|refine zt rfl ?_)
    exact ⟨_, rfl, rfl, ad1, cap1, hto⟩
  have hlt : i < qs.length := by omega
  have htk : qs.take (i + 1) = qs.take i ++ [qs[i]] := by rw [List.take_add_one, List.getElem?_eq_getElem hlt]; rfl
  have hfold : (qs.take (i + 1)).foldl (joinStep p F) (ws, false) = joinStep p F ((qs.take i).foldl (joinStep p F) (ws, false)) qs[i] := by rw [htk, List.foldl_append]; rfl
  obtain ⟨bo, oo, rfl, hbo, hcell⟩ := hr.at_ (by simp; omega)
  have hqm := hq qs[i] (List.getElem_mem hlt)
  have hcq : w2.cell? ⟨bo, oo + i, none⟩ = some (ptr qs[i]) := by
    rw [← hcell i (ptr qs[i]) (by simp [hlt])]
    exact World.cell?_of_block (hto.kp.at_ bo hbo (hao bo (by simp [blkOf])))
  (repeat first|refine zA ?_|refine zB ?_|refine zC ?_|refine zD ?_|refine zE ?_|refine zg ?_|refine zo rfl rfl (by first|exact trivial|(simp only[AllP];omega)|(simp(discharger:=omega)only[AllP,cA,cB];omega)|(simp only[AllP,cC,cD,cE,cF,cG];omega)) ?_|refine zn ?_|refine zb ?_|refine ze rfl ?_|refine zr ?_|refine zk ?_|refine zT rfl rfl rfl ?_|refine zU rfl rfl rfl ?_|refine zV rfl rfl rfl ?_|refine zf rfl ?_|refine zt rfl ?_)
  refine o_loadc (v := ptr qs[i]) rfl hcq rfl rfl rfl rfl ?_
  generalize hS : (qs.take i).foldl (joinStep p F) (ws, false) = s at hto hfold ⊢
  obtain ⟨us, m⟩ := s
  dsimp only at hto ⊢
  generalize hqq : qs[i] = q at hqm hfold ⊢
  obtain ⟨vs, hvs⟩ : ∃ vs, vs = if q = p then us else F q := ⟨_, rfl⟩
  (repeat first|refine zA ?_|refine zB ?_|refine zC ?_|refine zD ?_|refine zE ?_|refine zg ?_|refine zo rfl rfl (by first|exact trivial|(simp only[AllP];omega)|(simp(discharger:=omega)only[AllP,cA,cB];omega)|(simp only[AllP,cC,cD,cE,cF,cG];omega)) ?_|refine zn ?_|refine zb ?_|refine ze rfl ?_|refine zr ?_|refine zk ?_|refine zT rfl rfl rfl ?_|refine zU rfl rfl rfl ?_|refine zV rfl rfl rfl ?_|refine zf rfl ?_|refine zt rfl ?_)
  refine r_loop (α := Nat × Option Addr × Nat) [0, 8, 10, 26, 27, 28] (fun _ => [ptr p, .bool m, ptr q, .slice (some ⟨bo, oo, none⟩) qs.length co, I qs.length, I i]) (fun g w3 => SetTo w1 p ad w3 (us ++ List.replicate g.1 0) g.2.1 g.2.2 ∧ g.1 ≤ vs.length - us.length) (fun g => vs.length - (us.length + g.1)) (0, ad1, cap1) rfl ⟨by simpa using hto, by omega⟩ ?_
  rintro ⟨j, ad3, cap3⟩ e w3 ⟨hto3, hj⟩
  dsimp only at hto3 hj ⊢
  have hT3 := SetTo.tab hT h hto3
  have hat := hto3.at_
  obtain ⟨bd, bap, hnow⟩ := hqm.now us ad3 cap3
  rw [← hvs] at hnow
  have hself : q = p → us ++ List.replicate j 0 = us := fun e1 => by
    rw [if_pos e1] at hvs; subst hvs
    have : j = 0 := by omega
    subst this; simp
  have k3 := hnow _ _ hto3 hself
  have hl1 := k3.len
  have hl3 : (us ++ List.replicate j 0).length = us.length + j := by simp
  refine r_seq ?_
  refine r_seq ?_
  refine r_quietS follows_mixed (by kernel_rfl) ?_
  (repeat first|refine yo rfl rfl (by first|exact trivial|(simp only[AllP];omega)|(simp(discharger:=omega)only[AllP,cA,cB];omega)|(simp only[AllP,cC,cD,cE,cF,cG];omega)) ?_|refine yn ?_|refine q_know _ _ (some true) rfl rfl rfl ?_|refine q_know _ _ (some false) rfl rfl rfl ?_|refine q_know _ _ none rfl rfl rfl ?_)
  refine q_load rfl (fun w hs => (hs.blk hat.hdr).cell rfl) rfl rfl rfl rfl ?_
  (repeat first|refine yo rfl rfl (by first|exact trivial|(simp only[AllP];omega)|(simp(discharger:=omega)only[AllP,cA,cB];omega)|(simp only[AllP,cC,cD,cE,cF,cG];omega)) ?_|refine yn ?_|refine q_know _ _ (some true) rfl rfl rfl ?_|refine q_know _ _ (some false) rfl rfl rfl ?_|refine q_know _ _ none rfl rfl rfl ?_)
  refine q_load rfl (fun w hs => (hs.blk k3.hdr).cell rfl) rfl rfl rfl rfl ?_
  (repeat first|refine yo rfl rfl (by first|exact trivial|(simp only[AllP];omega)|(simp(discharger:=omega)only[AllP,cA,cB];omega)|(simp only[AllP,cC,cD,cE,cF,cG];omega)) ?_|refine yn ?_|refine q_know _ _ (some true) rfl rfl rfl ?_|refine q_know _ _ (some false) rfl rfl rfl ?_|refine q_know _ _ none rfl rfl rfl ?_)
  intro w4 hs4
  have hto4 := hto3.sm hs4
  have hT4 := hT3.sm hs4
  have hat4 := hto4.at_
  refine r_if rfl (fun hc => ?_) (fun hc => ?_)
  · (repeat first|refine zA ?_|refine zB ?_|refine zC ?_|refine zD ?_|refine zE ?_|refine zg ?_|refine zo rfl rfl (by first|exact trivial|(simp only[AllP];omega)|(simp(discharger:=omega)only[AllP,cA,cB];omega)|(simp only[AllP,cC,cD,cE,cF,cG];omega)) ?_|refine zn ?_|refine zb ?_|refine ze rfl ?_|refine zr ?_|refine zk ?_|refine zT rfl rfl rfl ?_|refine zU rfl rfl rfl ?_|refine zV rfl rfl rfl ?_|refine zf rfl ?_|refine zt rfl ?_)
    refine o_load rfl hat4.hdr rfl rfl rfl rfl rfl ?_
    (repeat first|refine zA ?_|refine zB ?_|refine zC ?_|refine zD ?_|refine zE ?_|refine zg ?_|refine zo rfl rfl (by first|exact trivial|(simp only[AllP];omega)|(simp(discharger:=omega)only[AllP,cA,cB];omega)|(simp only[AllP,cC,cD,cE,cF,cG];omega)) ?_|refine zn ?_|refine zb ?_|refine ze rfl ?_|refine zr ?_|refine zk ?_|refine zT rfl rfl rfl ?_|refine zU rfl rfl rfl ?_|refine zV rfl rfl rfl ?_|refine zf rfl ?_|refine zt rfl ?_)
    refine o_buildSlice [U 0] rfl (by simp [Value.oneCell']) rfl (by decide) (by decide) rfl rfl rfl rfl rfl ?_
    intro b1 w5 hb1 hu1
    have hA5 := hat4.kp (hu1.kp [] (.inr (by omega))) (by simp)
    refine o_append1 rfl rfl hA5.own hu1.blk rfl rfl rfl rfl (by simp only [maxLen]; omega) (by omega) rfl rfl ?_
    intro ad2 cap2 w6 ho kp3 hnew
    have hH6 := kp3.blk hA5.p_ad hA5.hdr
    (repeat first|refine zA ?_|refine zB ?_|refine zC ?_|refine zD ?_|refine zE ?_|refine zg ?_|refine zo rfl rfl (by first|exact trivial|(simp only[AllP];omega)|(simp(discharger:=omega)only[AllP,cA,cB];omega)|(simp only[AllP,cC,cD,cE,cF,cG];omega)) ?_|refine zn ?_|refine zb ?_|refine ze rfl ?_|refine zr ?_|refine zk ?_|refine zT rfl rfl rfl ?_|refine zU rfl rfl rfl ?_|refine zV rfl rfl rfl ?_|refine zf rfl ?_|refine zt rfl ?_)
    refine o_store rfl hH6 (by simp) rfl rfl rfl rfl rfl rfl ?_
    intro w7 hu7
    (repeat first|refine zA ?_|refine zB ?_|refine zC ?_|refine zD ?_|refine zE ?_|refine zg ?_|refine zo rfl rfl (by first|exact trivial|(simp only[AllP];omega)|(simp(discharger:=omega)only[AllP,cA,cB];omega)|(simp only[AllP,cC,cD,cE,cF,cG];omega)) ?_|refine zn ?_|refine zb ?_|refine ze rfl ?_|refine zr ?_|refine zk ?_|refine zT rfl rfl rfl ?_|refine zU rfl rfl rfl ?_|refine zV rfl rfl rfl ?_|refine zf rfl ?_|refine zt rfl ?_)
    have hg := hat4.grew hT4 hb1 hu1 ho kp3 hnew hu7 (by omega)
    have e1 : us ++ List.replicate j 0 ++ [0] = us ++ List.replicate (j + 1) 0 := by rw [List.append_assoc, ← List.replicate_succ']
    rw [e1] at hg
    exact ⟨(j + 1, ad2, cap2), rfl, ⟨hto4.trans hg, by dsimp only; omega⟩, by dsimp only; omega⟩
  · have hj2 : j = vs.length - us.length := by omega
    have hgw : us ++ List.replicate j 0 = growW us vs.length := by unfold growW; rw [hj2]
    rw [hgw] at hto4
    clear hnow k3 hself hl1 hl3 hT3 hat
    have hto3 := hto4
    obtain ⟨ad2, hade⟩ : ∃ x, x = ad3 := ⟨_, rfl⟩
    obtain ⟨cap2, hcape⟩ : ∃ x, x = cap3 := ⟨_, rfl⟩
    rw [← hade, ← hcape] at hto3
    obtain ⟨bd, bap, hnow⟩ := hqm.now us ad2 cap2
    rw [← hvs] at hnow
    have hself : q = p → ∀ n, updW (· ||| ·) (growW us vs.length) vs n = us := fun e1 n => by
      rw [if_pos e1] at hvs; subst hvs
      rw [growW_self, updW_or_self]
    have k3 := hnow w4 _ hto3 (fun e1 => by have := hself e1 0; rwa [updW_zero] at this)
    have hl2 := k3.len
    have hglen := growW_len us vs.length
    generalize hgs : growW us vs.length = gs at hto3 hself hglen
    have hgok := hto3.at_.ok
    (repeat first|refine zA ?_|refine zB ?_|refine zC ?_|refine zD ?_|refine zE ?_|refine zg ?_|refine zo rfl rfl (by first|exact trivial|(simp only[AllP];omega)|(simp(discharger:=omega)only[AllP,cA,cB];omega)|(simp only[AllP,cC,cD,cE,cF,cG];omega)) ?_|refine zn ?_|refine zb ?_|refine ze rfl ?_|refine zr ?_|refine zk ?_|refine zT rfl rfl rfl ?_|refine zU rfl rfl rfl ?_|refine zV rfl rfl rfl ?_|refine zf rfl ?_|refine zt rfl ?_)
    refine o_load rfl k3.hdr rfl rfl rfl rfl rfl ?_
    (repeat first|refine zA ?_|refine zB ?_|refine zC ?_|refine zD ?_|refine zE ?_|refine zg ?_|refine zo rfl rfl (by first|exact trivial|(simp only[AllP];omega)|(simp(discharger:=omega)only[AllP,cA,cB];omega)|(simp only[AllP,cC,cD,cE,cF,cG];omega)) ?_|refine zn ?_|refine zb ?_|refine ze rfl ?_|refine zr ?_|refine zk ?_|refine zT rfl rfl rfl ?_|refine zU rfl rfl rfl ?_|refine zV rfl rfl rfl ?_|refine zf rfl ?_|refine zt rfl ?_)
    have hm0 : (m || moreN gs vs 0) = m := by simp [moreN]
    refine r_loop (α := Nat) [0, 8, 26, 27, 28, 55, 56, 57] (fun j => [ptr p, .bool (m || moreN gs vs j), .slice (some ⟨bo, oo, none⟩) qs.length co, I qs.length, I i, .slice bd vs.length bap, I vs.length, I j]) (fun j w5 => SetTo w1 p ad w5 (updW (· ||| ·) gs vs j) ad2 cap2 ∧ j ≤ vs.length) (fun j => vs.length - j) 0 (by rw [hm0]; rfl) ⟨by rw [updW_zero]; exact hto3, by omega⟩ ?_
    rintro j e w5 ⟨hto5, hj⟩
    have k5 := hnow w5 _ hto5 (fun e1 => hself e1 j)
    have h5 := hto5.at_
    have hul := updW_len (· ||| ·) gs vs j
    (repeat first|refine zA ?_|refine zB ?_|refine zC ?_|refine zD ?_|refine zE ?_|refine zg ?_|refine zo rfl rfl (by first|exact trivial|(simp only[AllP];omega)|(simp(discharger:=omega)only[AllP,cA,cB];omega)|(simp only[AllP,cC,cD,cE,cF,cG];omega)) ?_|refine zn ?_|refine zb ?_|refine ze rfl ?_|refine zr ?_|refine zk ?_|refine zT rfl rfl rfl ?_|refine zU rfl rfl rfl ?_|refine zV rfl rfl rfl ?_|refine zf rfl ?_|refine zt rfl ?_)
    refine r_if rfl (fun hc3 => ?_) (fun hc3 => ?_)
    · have hlt3 : j < gs.length := by omega
      have hlt4 : j < vs.length := by omega
      have hx1 : gs.getD j 0 < 2 ^ 64 := hgok.getD j
      have hx2 : vs.getD j 0 < 2 ^ 64 := k5.ok.getD j
      obtain ⟨b1, j1, rfl, hb1, c1⟩ := h5.word (i := j) (by omega)
      obtain ⟨b2, j2, rfl, hb2, c2⟩ := k5.word hlt4
      rw [updW_getD _ _ _ _ _ hlt3, if_neg (by omega)] at c1
      (repeat first|refine zA ?_|refine zB ?_|refine zC ?_|refine zD ?_|refine zE ?_|refine zg ?_|refine zo rfl rfl (by first|exact trivial|(simp only[AllP];omega)|(simp(discharger:=omega)only[AllP,cA,cB];omega)|(simp only[AllP,cC,cD,cE,cF,cG];omega)) ?_|refine zn ?_|refine zb ?_|refine ze rfl ?_|refine zr ?_|refine zk ?_|refine zT rfl rfl rfl ?_|refine zU rfl rfl rfl ?_|refine zV rfl rfl rfl ?_|refine zf rfl ?_|refine zt rfl ?_)
      refine o_loadc (v := U (vs.getD j 0)) rfl ?_ rfl rfl rfl rfl ?_
      · show w5.cell? ⟨b2, 0 + j, none⟩ = _
        rw [Nat.zero_add]; exact hb2.cell c2
      (repeat first|refine zA ?_|refine zB ?_|refine zC ?_|refine zD ?_|refine zE ?_|refine zg ?_|refine zo rfl rfl (by first|exact trivial|(simp only[AllP];omega)|(simp(discharger:=omega)only[AllP,cA,cB];omega)|(simp only[AllP,cC,cD,cE,cF,cG];omega)) ?_|refine zn ?_|refine zb ?_|refine ze rfl ?_|refine zr ?_|refine zk ?_|refine zT rfl rfl rfl ?_|refine zU rfl rfl rfl ?_|refine zV rfl rfl rfl ?_|refine zf rfl ?_|refine zt rfl ?_)
      have hmj := moreN_succ gs vs j
      have ea := ibits_andn hx2 hx1
      refine o_cut (α := Unit) [0, 8, 11, 12, 26, 27, 28, 55, 56, 57] (fun _ => [ptr p, .bool (m || moreN gs vs (j + 1)), I j, U (vs.getD j 0), .slice (some ⟨bo, oo, none⟩) qs.length co, I qs.length, I i, .slice (some ⟨b2, 0, none⟩) vs.length bap, I vs.length, I j]) (fun _ w6 => w5 = w6) ?_ ?_
      · (repeat first|refine zo rfl rfl (by first|exact trivial|(simp only[AllP];omega)|(simp(discharger:=omega)only[AllP,cA,cB];omega)|(simp only[AllP,cC,cD,cE,cF,cG];omega)) ?_|refine zn ?_|refine zT rfl rfl rfl ?_|refine zU rfl rfl rfl ?_|refine zV rfl rfl rfl ?_)
        refine o_split 1 false rfl rfl rfl (fun hb => ?_) (fun hb => ?_)
        · (repeat first|refine zo rfl rfl (by first|exact trivial|(simp only[AllP];omega)|(simp(discharger:=omega)only[AllP,cA,cB];omega)|(simp only[AllP,cC,cD,cE,cF,cG];omega)) ?_|refine zn ?_|refine zT rfl rfl rfl ?_|refine zU rfl rfl rfl ?_|refine zV rfl rfl rfl ?_)
          refine ⟨(), ?_, rfl⟩
          have : (m || moreN gs vs (j + 1)) = true := by rw [hmj, ← Bool.or_assoc, hb]; rfl
          rw [this]; rfl
        · (repeat first|refine zo rfl rfl (by first|exact trivial|(simp only[AllP];omega)|(simp(discharger:=omega)only[AllP,cA,cB];omega)|(simp only[AllP,cC,cD,cE,cF,cG];omega)) ?_|refine zn ?_|refine zT rfl rfl rfl ?_|refine zU rfl rfl rfl ?_|refine zV rfl rfl rfl ?_)
          refine o_load rfl h5.hdr rfl rfl rfl rfl rfl ?_
          (repeat first|refine zo rfl rfl (by first|exact trivial|(simp only[AllP];omega)|(simp(discharger:=omega)only[AllP,cA,cB];omega)|(simp only[AllP,cC,cD,cE,cF,cG];omega)) ?_|refine zn ?_|refine zT rfl rfl rfl ?_|refine zU rfl rfl rfl ?_|refine zV rfl rfl rfl ?_)
          refine o_loadc (v := U (gs.getD j 0)) rfl ?_ rfl rfl rfl rfl ?_
          · show w5.cell? ⟨b1, 0 + j, none⟩ = _
            rw [Nat.zero_add]; exact hb1.cell c1
          (repeat first|refine zo rfl rfl (by first|exact trivial|(simp only[AllP];omega)|(simp(discharger:=omega)only[AllP,cA,cB];omega)|(simp only[AllP,cC,cD,cE,cF,cG];omega)) ?_|refine zn ?_|refine zT rfl rfl rfl ?_|refine zU rfl rfl rfl ?_|refine zV rfl rfl rfl ?_)
          refine ⟨(), ?_, rfl⟩
          have : (m || moreN gs vs (j + 1)) = !decide (ibits .andNot .u64 ((vs.getD j 0 : Nat) : Int) ((gs.getD j 0 : Nat) : Int) = 0) := by
            rw [hmj, ← Bool.or_assoc, hb, ea, Bool.false_or, decide_not]
            congr 1
            rw [decide_eq_decide]; omega
          rw [this]; rfl
      rintro ⟨⟩ e w6 rfl
      (repeat first|refine zA ?_|refine zB ?_|refine zC ?_|refine zD ?_|refine zE ?_|refine zg ?_|refine zo rfl rfl (by first|exact trivial|(simp only[AllP];omega)|(simp(discharger:=omega)only[AllP,cA,cB];omega)|(simp only[AllP,cC,cD,cE,cF,cG];omega)) ?_|refine zn ?_|refine zb ?_|refine ze rfl ?_|refine zr ?_|refine zk ?_|refine zT rfl rfl rfl ?_|refine zU rfl rfl rfl ?_|refine zV rfl rfl rfl ?_|refine zf rfl ?_|refine zt rfl ?_)
      refine o_load rfl h5.hdr rfl rfl rfl rfl rfl ?_
      (repeat first|refine zA ?_|refine zB ?_|refine zC ?_|refine zD ?_|refine zE ?_|refine zg ?_|refine zo rfl rfl (by first|exact trivial|(simp only[AllP];omega)|(simp(discharger:=omega)only[AllP,cA,cB];omega)|(simp only[AllP,cC,cD,cE,cF,cG];omega)) ?_|refine zn ?_|refine zb ?_|refine ze rfl ?_|refine zr ?_|refine zk ?_|refine zT rfl rfl rfl ?_|refine zU rfl rfl rfl ?_|refine zV rfl rfl rfl ?_|refine zf rfl ?_|refine zt rfl ?_)
      refine o_loadc (v := U (gs.getD j 0)) rfl ?_ rfl rfl rfl rfl ?_
      · show w5.cell? ⟨b1, 0 + j, none⟩ = _
        rw [Nat.zero_add]; exact hb1.cell c1
      (repeat first|refine zA ?_|refine zB ?_|refine zC ?_|refine zD ?_|refine zE ?_|refine zg ?_|refine zo rfl rfl (by first|exact trivial|(simp only[AllP];omega)|(simp(discharger:=omega)only[AllP,cA,cB];omega)|(simp only[AllP,cC,cD,cE,cF,cG];omega)) ?_|refine zn ?_|refine zb ?_|refine ze rfl ?_|refine zr ?_|refine zk ?_|refine zT rfl rfl rfl ?_|refine zU rfl rfl rfl ?_|refine zV rfl rfl rfl ?_|refine zf rfl ?_|refine zt rfl ?_)
      have e1 := ibits_or hx1 hx2
      refine o_store (b := b1) (off := j) (v := U (gs.getD j 0 ||| vs.getD j 0)) (c := none) ?_ hb1 (by simp; omega) ?_ rfl rfl rfl rfl rfl ?_
      · show Value.pointer (some ⟨b1, 0 + j, none⟩) = _
        rw [Nat.zero_add]
      · exact congrArg (fun z => some (none, Value.int .u64 z)) e1
      intro w7 hu7
      have hst := h5.stored (Sm.refl _) (i := j) (by omega) (Nat.or_lt_two_pow hx1 hx2) hb1 hu7
      rw [updW_set _ _ _ _ hlt3] at hst
      (repeat first|refine zA ?_|refine zB ?_|refine zC ?_|refine zD ?_|refine zE ?_|refine zg ?_|refine zo rfl rfl (by first|exact trivial|(simp only[AllP];omega)|(simp(discharger:=omega)only[AllP,cA,cB];omega)|(simp only[AllP,cC,cD,cE,cF,cG];omega)) ?_|refine zn ?_|refine zb ?_|refine ze rfl ?_|refine zr ?_|refine zk ?_|refine zT rfl rfl rfl ?_|refine zU rfl rfl rfl ?_|refine zV rfl rfl rfl ?_|refine zf rfl ?_|refine zt rfl ?_)
      exact ⟨j + 1, rfl, ⟨hto5.trans hst, by omega⟩, by omega⟩
    · have hjn : j = vs.length := by omega
      subst hjn
      (repeat first|refine zA ?_|refine zB ?_|refine zC ?_|refine zD ?_|refine zE ?_|refine zg ?_|refine zo rfl rfl (by first|exact trivial|(simp only[AllP];omega)|(simp(discharger:=omega)only[AllP,cA,cB];omega)|(simp only[AllP,cC,cD,cE,cF,cG];omega)) ?_|refine zn ?_|refine zb ?_|refine ze rfl ?_|refine zr ?_|refine zk ?_|refine zT rfl rfl rfl ?_|refine zU rfl rfl rfl ?_|refine zV rfl rfl rfl ?_|refine zf rfl ?_|refine zt rfl ?_)
      refine ⟨(i + 1, ad2, cap2), ?_, ⟨?_, by dsimp only; omega⟩, by dsimp only; omega⟩
      · rw [hfold]
        unfold joinStep
        dsimp only
        rw [← hvs, hgs]
        rfl
      · rw [hfold]
        unfold joinStep joinW
        dsimp only
        rw [← hvs, hgs]
        exact hto5
end Go.Vc
