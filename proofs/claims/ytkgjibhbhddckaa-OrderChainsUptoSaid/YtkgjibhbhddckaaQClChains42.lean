/- order: OrderChains. -/
import Derived.Test.YtkgjibhbhddckaaQClChains41
namespace Go.Vc
open Go Go.Proofs
set_option maxRecDepth 10000
variable {w : World}
/-- a row of ints of one's own is overwritten, one by one -/
theorem OwnS.wr1 {ad : Option Addr} {n cap : Nat} {xs : List Int} (h : OwnS w 3 1 ad n cap (xs.map I)) {i : Nat} (hi : i < n) (y : Int) :
    ∃ b L, ad = some ⟨b, 0, none⟩ ∧ Blk w b L 3 ∧ i < L.length ∧ ∀ w', Upd w b (.cells ⟨L.set i (I y)⟩ 3 (0, 0)) w' → OwnS w' 3 1 ad n cap ((xs.set i y).map I) := by
  obtain ⟨b, L, h1, h2, h3, h4⟩ := h.wr hi
  exact ⟨b, L, h1, h2, h3, fun w' hu => by rw [List.map_set]; exact h4 (I y) w' hu⟩
section
variable {P : Program} {n : Nat} {e : Env} {K : EPost} {all : List Oper} {G : List Nat} {ro : Option Nat} {dst : Option Tmp} {ty : TypeId} {pos : String} {after : Array Edge} {g : Option (Nat × Bool)} {l : List Oper} {t : TypeId} {x y : Operand}
/-- append(nil, xs...) -/
theorem o_cloneN {T : TypeId} {td : TypeDesc} {tn : String} {tby : Nat} {thp : Bool} {tal tfa : Nat} {z : Value} {tcm : Bool} {tms : Array Method} {nad : Option Addr} {k ncap : Nat} (xs : List Value)
    (hx : ev e x = .slice none 0 0) (hy : ev e y = .slice nad k ncap) (hr : ReadS w nad xs) (hk : xs.length = k) (h1 : ∀ v ∈ xs, v.oneCell' = true)
    (hu : P.underlying t = some (.slice T)) (hi : P.info? T = some ⟨td, tn, 1, tby, thp, tal, tfa, some z, tcm, tms⟩) (hzs : z.cells.size = 1) (h63 : k ≤ maxLen) (hby : k * tby ≤ 140737488355328) (hd : dOk n dst = true) (hm : may all G e g = some true)
    (kk : ∀ ad' cap' w', OwnS w' T 1 ad' k cap' xs → Kp [] w w' → (∀ b, b ∈ blkOf ad' → w.heap.size ≤ b) → Ops ro P n all G K l (put e dst (.slice ad' k cap')) w') :
    Ops ro P n all G K (⟨dst, .call ⟨.builtin .append, #[x, y], #[t, t]⟩, ty, pos, after, g⟩ :: l) e w := by
  by_cases h0 : k = 0
  · subst h0
    have hxs : xs = [] := List.eq_nil_of_length_eq_zero hk
    subst hxs
    exact o_append0 hx hy (Nat.le_refl _) hu hi hd hm (kk none 0 w (ownS_nil _ _ _) (Kp.refl _ _) (by simp [blkOf]))
  · obtain ⟨b, off, rfl, _, _⟩ := hr.at_ (by omega)
    refine o_append xs hx hy (ownS_nil w T 1) (fun j v hv => hr j v hv) hu hi hzs (by omega) (by omega) (by omega) h1 (by omega) (by rw [Nat.zero_add]; exact hby) hd hm ?_
    intro ad' cap' w' ho hk' hn
    have e0 : 0 + k = k := Nat.zero_add k
    rw [e0] at ho ⊢
    exact kk ad' cap' w' ho hk' (fun b hb => by
      rcases hn b hb with q | q
      · simp [blkOf] at q
      · exact q)
end
set_option maxHeartbeats 12800000 in
theorem orderChains_ret {s : Shp} {l : List Ev} {nums : List Int} {pad ead nad : Option Addr} {cap ecap ncap : Nat} (hr : ReadS w pad (s.pa.map I)) (hpl : s.pa.length ≤ 1048576) (he : ReadS w ead (evsC l)) (hl : l.length ≤ 1048576) (hn : ReadS w nad (nums.map I)) (hnl : nums.length ≤ 1048576) (hrng : ∀ x ∈ nums, -9223372036854775808 ≤ x ∧ x ≤ 9223372036854775807) :
    Ret Try.prog 3 [.agg ⟨shC s pad cap⟩, .slice ead l.length ecap, .slice nad nums.length ncap] w (fun v w' => v = .bool true ∧ Kp [] w w') := by
  refine enter Try.call3 Try.func3 rfl rfl rfl rfl ?_
  (repeat first|refine zA ?_|refine zB ?_|refine zC ?_|refine zD ?_|refine zE ?_|refine zg ?_|refine zo rfl rfl (by first|exact trivial|(simp only[AllP];omega)|(simp(discharger:=omega)only[AllP,cA,cB];omega)|(simp only[AllP,cC,cD,cE,cF,cG];omega)) ?_|refine zn ?_|refine zb ?_|refine ze rfl ?_|refine zr ?_|refine zk ?_|refine zT rfl rfl rfl ?_|refine zU rfl rfl rfl ?_|refine zV rfl rfl rfl ?_|refine zf rfl ?_|refine zt rfl ?_)
  refine o_box rfl rfl rfl ?_
  intro bx w1 hbx hu1
  have hB1 : Blk w1 bx (shC s pad cap) 24 := hu1.blk
  have k1 : Kp [] w w1 := hu1.kp [] (.inr (by omega))
  (repeat first|refine zA ?_|refine zB ?_|refine zC ?_|refine zD ?_|refine zE ?_|refine zg ?_|refine zo rfl rfl (by first|exact trivial|(simp only[AllP];omega)|(simp(discharger:=omega)only[AllP,cA,cB];omega)|(simp only[AllP,cC,cD,cE,cF,cG];omega)) ?_|refine zn ?_|refine zb ?_|refine ze rfl ?_|refine zr ?_|refine zk ?_|refine zT rfl rfl rfl ?_|refine zU rfl rfl rfl ?_|refine zV rfl rfl rfl ?_|refine zf rfl ?_|refine zt rfl ?_)
  refine o_loadA (vs := shC s pad cap) rfl (fun j v hv => by rw [Nat.zero_add]; exact hB1.cell hv) rfl rfl rfl rfl rfl rfl ?_
  (repeat first|refine zA ?_|refine zB ?_|refine zC ?_|refine zD ?_|refine zE ?_|refine zg ?_|refine zo rfl rfl (by first|exact trivial|(simp only[AllP];omega)|(simp(discharger:=omega)only[AllP,cA,cB];omega)|(simp only[AllP,cC,cD,cE,cF,cG];omega)) ?_|refine zn ?_|refine zb ?_|refine ze rfl ?_|refine zr ?_|refine zk ?_|refine zT rfl rfl rfl ?_|refine zU rfl rfl rfl ?_|refine zV rfl rfl rfl ?_|refine zf rfl ?_|refine zt rfl ?_)
  refine o_call (oNew_ret (hr.kp k1 (by simp)) hpl (he.kp k1 (by simp)) hl) rfl rfl rfl ?_
  intro va w2 hA
  have hA' : ∃ (pa : Option Addr) (e : Int) (E : List Ev) (R : List Int), va = .tuple #[.pointer pa, I e] ∧ OaV w2 (.pointer pa) E R ∧ Kp [] w1 w2 ∧ ((badO s l e ∧ E = [] ∧ R = [] ∧ pa = none) ∨ (e = 0 ∧ shapeB s = true ∧ l.length ≤ 2048 ∧ okTo s l l.length ∧ E = l ∧ R = rnds s l l.length ∧ ∃ p, pa = some p)) := by
    rcases hA with ⟨e, h1, h2, h3⟩ | ⟨h1, h2, h3, g, h4, h5, h6, _⟩
    · exact ⟨none, e, [], [], h2, .inl ⟨rfl, rfl, rfl⟩, h3, .inl ⟨h1, rfl, rfl, rfl⟩⟩
    · exact ⟨some ⟨g.p, 0, none⟩, 0, l, _, h4, .inr ⟨g, rfl, h5⟩, h6, .inr ⟨rfl, h1, h2, h3, rfl, rfl, _, rfl⟩⟩
  obtain ⟨pa, ea, E, R, rfl, hOa, k2, hcaseA⟩ := hA'
  have hB2 := k2.blk (by simp) hB1
  have k12 := k1.trans k2
  (repeat first|refine zA ?_|refine zB ?_|refine zC ?_|refine zD ?_|refine zE ?_|refine zg ?_|refine zo rfl rfl (by first|exact trivial|(simp only[AllP];omega)|(simp(discharger:=omega)only[AllP,cA,cB];omega)|(simp only[AllP,cC,cD,cE,cF,cG];omega)) ?_|refine zn ?_|refine zb ?_|refine ze rfl ?_|refine zr ?_|refine zk ?_|refine zT rfl rfl rfl ?_|refine zU rfl rfl rfl ?_|refine zV rfl rfl rfl ?_|refine zf rfl ?_|refine zt rfl ?_)
  refine o_loadA (vs := shC s pad cap) rfl (fun j v hv => by rw [Nat.zero_add]; exact hB2.cell hv) rfl rfl rfl rfl rfl rfl ?_
  (repeat first|refine zA ?_|refine zB ?_|refine zC ?_|refine zD ?_|refine zE ?_|refine zg ?_|refine zo rfl rfl (by first|exact trivial|(simp only[AllP];omega)|(simp(discharger:=omega)only[AllP,cA,cB];omega)|(simp only[AllP,cC,cD,cE,cF,cG];omega)) ?_|refine zn ?_|refine zb ?_|refine ze rfl ?_|refine zr ?_|refine zk ?_|refine zT rfl rfl rfl ?_|refine zU rfl rfl rfl ?_|refine zV rfl rfl rfl ?_|refine zf rfl ?_|refine zt rfl ?_)
  refine o_call (r20New_ret (hr.kp k12 (by simp)) hpl (he.kp k12 (by simp)) hl) rfl rfl rfl ?_
  intro vb w3 hB
  have hB' : ∃ pb : Option Addr, vb = .tuple #[.pointer pb, I ea] ∧ RaV w3 (.pointer pb) E R ∧ Kp [] w2 w3 ∧ ((ea ≠ 0 ∧ pa = none ∧ pb = none) ∨ ∃ p q, pa = some p ∧ pb = some q) := by
    rcases hB with ⟨e, h1, h2, h3⟩ | ⟨h1, h2, h3, g, h4, h5, h6⟩
    · rcases hcaseA with ⟨g1, rfl, rfl, rfl⟩ | ⟨_, g1, g2, g3, _⟩
      · have := badO_uniq h1 g1
        subst this
        exact ⟨none, h2, .inl ⟨rfl, rfl, rfl⟩, h3, .inl ⟨by have := badO_ne h1; omega, rfl, rfl⟩⟩
      · exact (badO_not h1 g1 g2 g3).elim
    · rcases hcaseA with ⟨g1, _⟩ | ⟨rfl, _, _, _, rfl, rfl, p, rfl⟩
      · exact (badO_not g1 h1 h2 h3).elim
      · exact ⟨some ⟨g.p, 0, none⟩, h4, .inr ⟨g, rfl, h5⟩, h6, .inr ⟨p, _, rfl, rfl⟩⟩
  obtain ⟨pb, rfl, hRb, k3, hcase⟩ := hB'
  have hOa := hOa.kp0 k3
  have k03 := k12.trans k3
  clear hcaseA hA hB
  (repeat first|refine zA ?_|refine zB ?_|refine zC ?_|refine zD ?_|refine zE ?_|refine zg ?_|refine zo rfl rfl (by first|exact trivial|(simp only[AllP];omega)|(simp(discharger:=omega)only[AllP,cA,cB];omega)|(simp only[AllP,cC,cD,cE,cF,cG];omega)) ?_|refine zn ?_|refine zb ?_|refine ze rfl ?_|refine zr ?_|refine zk ?_|refine zT rfl rfl rfl ?_|refine zU rfl rfl rfl ?_|refine zV rfl rfl rfl ?_|refine zf rfl ?_|refine zt rfl ?_)
  refine o_call (num20_ret _) rfl rfl rfl ?_
  rintro v w4 ⟨rfl, rfl⟩
  (repeat first|refine zA ?_|refine zB ?_|refine zC ?_|refine zD ?_|refine zE ?_|refine zg ?_|refine zo rfl rfl (by first|exact trivial|(simp only[AllP];omega)|(simp(discharger:=omega)only[AllP,cA,cB];omega)|(simp only[AllP,cC,cD,cE,cF,cG];omega)) ?_|refine zn ?_|refine zb ?_|refine ze rfl ?_|refine zr ?_|refine zk ?_|refine zT rfl rfl rfl ?_|refine zU rfl rfl rfl ?_|refine zV rfl rfl rfl ?_|refine zf rfl ?_|refine zt rfl ?_)
  refine o_bool [2, 7, 9] [.slice nad nums.length ncap, .pointer pa, .pointer pb] 44 false (fun w' => w' = w4) ?_ ?_
  · refine o_is false 4 false rfl rfl rfl (by simp) ?_
    rcases hcase with ⟨_, rfl, rfl⟩ | ⟨p, q, rfl, rfl⟩
    · (repeat first|refine zo rfl rfl (by first|exact trivial|(simp only[AllP];omega)|(simp(discharger:=omega)only[AllP,cA,cB];omega)|(simp only[AllP,cC,cD,cE,cF,cG];omega)) ?_|refine zn ?_|refine zT rfl rfl rfl ?_|refine zU rfl rfl rfl ?_|refine zV rfl rfl rfl ?_)
      exact ⟨rfl, ⟨_, rfl, rfl⟩, rfl⟩
    · (repeat first|refine zo rfl rfl (by first|exact trivial|(simp only[AllP];omega)|(simp(discharger:=omega)only[AllP,cA,cB];omega)|(simp only[AllP,cC,cD,cE,cF,cG];omega)) ?_|refine zn ?_|refine zT rfl rfl rfl ?_|refine zU rfl rfl rfl ?_|refine zV rfl rfl rfl ?_)
      exact ⟨rfl, ⟨_, rfl, rfl⟩, rfl⟩
  rintro e w5 rfl
  clear hcase
  (repeat first|refine zA ?_|refine zB ?_|refine zC ?_|refine zD ?_|refine zE ?_|refine zg ?_|refine zo rfl rfl (by first|exact trivial|(simp only[AllP];omega)|(simp(discharger:=omega)only[AllP,cA,cB];omega)|(simp only[AllP,cC,cD,cE,cF,cG];omega)) ?_|refine zn ?_|refine zb ?_|refine ze rfl ?_|refine zr ?_|refine zk ?_|refine zT rfl rfl rfl ?_|refine zU rfl rfl rfl ?_|refine zV rfl rfl rfl ?_|refine zf rfl ?_|refine zt rfl ?_)
  have hn4 := hn.kp k03 (by simp)
  refine o_cloneN (nums.map I) rfl rfl hn4 (by simp) (by simp [Value.oneCell']) rfl rfl rfl (by simp only [maxLen]; omega) (by omega) rfl rfl ?_
  intro lad lcap w6 ho6 k6 hn6
  (repeat first|refine zA ?_|refine zB ?_|refine zC ?_|refine zD ?_|refine zE ?_|refine zg ?_|refine zo rfl rfl (by first|exact trivial|(simp only[AllP];omega)|(simp(discharger:=omega)only[AllP,cA,cB];omega)|(simp only[AllP,cC,cD,cE,cF,cG];omega)) ?_|refine zn ?_|refine zb ?_|refine ze rfl ?_|refine zr ?_|refine zk ?_|refine zT rfl rfl rfl ?_|refine zU rfl rfl rfl ?_|refine zV rfl rfl rfl ?_|refine zf rfl ?_|refine zt rfl ?_)
  refine o_buildSlice [I 77] rfl (by simp [Value.oneCell']) rfl (by decide) (by decide) rfl rfl rfl rfl rfl ?_
  intro b7 w7 hb7 hu7
  have k7 : Kp [] w6 w7 := hu7.kp [] (.inr (by omega))
  refine o_append1 rfl rfl (ho6.kp k7 (by simp)) hu7.blk rfl rfl rfl rfl (by simp only [maxLen]; omega) (by omega) rfl rfl ?_
  intro xad xcap w8 ho8 k8 hn8
  have z6 := k6.size
  have z7 := k7.size
  have k58 : Kp [] w5 w8 := (k6.trans k7).since k8 hn6
  have hx8 : ∀ b, b ∈ blkOf xad → w5.heap.size ≤ b := fun b hb => by
    rcases hn8 b hb with q | q
    · exact hn6 b q
    · omega
  have hcap8 := ho8.le_cap
  have hOa8 := hOa.kp0 k58
  have hRb8 := hRb.kp0 k58
  have hL8 : ReadS w8 xad (nums.map I) := by
    have := ho8.read.take nums.length
    rwa [List.take_left' (by simp)] at this
  (repeat first|refine zA ?_|refine zB ?_|refine zC ?_|refine zD ?_|refine zE ?_|refine zg ?_|refine zo rfl rfl (by first|exact trivial|(simp only[AllP];omega)|(simp(discharger:=omega)only[AllP,cA,cB];omega)|(simp only[AllP,cC,cD,cE,cF,cG];omega)) ?_|refine zn ?_|refine zb ?_|refine ze rfl ?_|refine zr ?_|refine zk ?_|refine zT rfl rfl rfl ?_|refine zU rfl rfl rfl ?_|refine zV rfl rfl rfl ?_|refine zf rfl ?_|refine zt rfl ?_)
  refine o_call (oPast_any hOa8 hL8 rfl hnl) rfl rfl rfl ?_
  rintro v w9 ⟨pad9, pcap9, rfl, hP⟩
  have hOa9 := hOa8.kp0 hP.kp
  have hL9 := hL8.kp hP.kp (by simp)
  (repeat first|refine zA ?_|refine zB ?_|refine zC ?_|refine zD ?_|refine zE ?_|refine zg ?_|refine zo rfl rfl (by first|exact trivial|(simp only[AllP];omega)|(simp(discharger:=omega)only[AllP,cA,cB];omega)|(simp only[AllP,cC,cD,cE,cF,cG];omega)) ?_|refine zn ?_|refine zb ?_|refine ze rfl ?_|refine zr ?_|refine zk ?_|refine zT rfl rfl rfl ?_|refine zU rfl rfl rfl ?_|refine zV rfl rfl rfl ?_|refine zf rfl ?_|refine zt rfl ?_)
  refine o_call (oPast_any hOa9 hL9 rfl hnl) rfl rfl rfl ?_
  rintro v w10 ⟨qad, qcap, rfl, hQ⟩
  have hRb10 := (hRb8.kp0 hP.kp).kp0 hQ.kp
  have kn10 : Kp [] w w10 := ((k03.trans k58).trans hP.kp).trans hQ.kp
  have hn10 := hn.kp kn10 (by simp)
  (repeat first|refine zA ?_|refine zB ?_|refine zC ?_|refine zD ?_|refine zE ?_|refine zg ?_|refine zo rfl rfl (by first|exact trivial|(simp only[AllP];omega)|(simp(discharger:=omega)only[AllP,cA,cB];omega)|(simp only[AllP,cC,cD,cE,cF,cG];omega)) ?_|refine zn ?_|refine zb ?_|refine ze rfl ?_|refine zr ?_|refine zk ?_|refine zT rfl rfl rfl ?_|refine zU rfl rfl rfl ?_|refine zV rfl rfl rfl ?_|refine zf rfl ?_|refine zt rfl ?_)
  refine o_call (rPast_any hRb10 hn10 rfl hnl) rfl rfl rfl ?_
  rintro v w11 ⟨wad, wcap, rfl, hW⟩
  have hPL : (pastL E R nums E.length).length ≤ 9223372036854775807 := by have := hP.own.le_max; simp only [maxLen] at this; omega
  have hE : E.length ≤ 2048 := by
    rcases hOa with ⟨_, rfl, _⟩ | ⟨g, _, h⟩
    · simp
    · exact h.small
  have hPL2 : (pastL E R nums E.length).length ≤ 2048 := Nat.le_trans (pastL_len E R nums E.length) hE
  generalize hpast : pastL E R nums E.length = pl at hP hQ hW hPL hPL2 ⊢
  have hP11 := ((hP.own.kp hQ.kp (by simp)).kp hW.kp (by simp))
  have hQ11 := hQ.own.kp hW.kp (by simp)
  have ho11 := ((ho8.kp hP.kp (by simp)).kp hQ.kp (by simp)).kp hW.kp (by simp)
  have k011 := kn10.trans hW.kp
  have hn11 := hn.kp k011 (by simp)
  have hL11 : ReadS w11 xad (nums.map I) := ((hL8.kp hP.kp (by simp)).kp hQ.kp (by simp)).kp hW.kp (by simp)
  (repeat first|refine zA ?_|refine zB ?_|refine zC ?_|refine zD ?_|refine zE ?_|refine zg ?_|refine zo rfl rfl (by first|exact trivial|(simp only[AllP];omega)|(simp(discharger:=omega)only[AllP,cA,cB];omega)|(simp only[AllP,cC,cD,cE,cF,cG];omega)) ?_|refine zn ?_|refine zb ?_|refine ze rfl ?_|refine zr ?_|refine zk ?_|refine zT rfl rfl rfl ?_|refine zU rfl rfl rfl ?_|refine zV rfl rfl rfl ?_|refine zf rfl ?_|refine zt rfl ?_)
  refine o_call (same20_yes (l := pl) hP11.read hW.own.read rfl rfl hPL) rfl rfl rfl ?_
  rintro v w12 ⟨rfl, s12⟩
  (repeat first|refine zA ?_|refine zB ?_|refine zC ?_|refine zD ?_|refine zE ?_|refine zg ?_|refine zo rfl rfl (by first|exact trivial|(simp only[AllP];omega)|(simp(discharger:=omega)only[AllP,cA,cB];omega)|(simp only[AllP,cC,cD,cE,cF,cG];omega)) ?_|refine zn ?_|refine zb ?_|refine ze rfl ?_|refine zr ?_|refine zk ?_|refine zT rfl rfl rfl ?_|refine zU rfl rfl rfl ?_|refine zV rfl rfl rfl ?_|refine zf rfl ?_|refine zt rfl ?_)
  refine o_call (same20_yes (l := pl) (hQ11.read.kp (s12.kp []) (by simp)) (hW.own.read.kp (s12.kp []) (by simp)) rfl rfl hPL) rfl rfl rfl ?_
  rintro v w13 ⟨rfl, s13⟩
  have s13 := s12.trans s13
  (repeat first|refine zA ?_|refine zB ?_|refine zC ?_|refine zD ?_|refine zE ?_|refine zg ?_|refine zo rfl rfl (by first|exact trivial|(simp only[AllP];omega)|(simp(discharger:=omega)only[AllP,cA,cB];omega)|(simp only[AllP,cC,cD,cE,cF,cG];omega)) ?_|refine zn ?_|refine zb ?_|refine ze rfl ?_|refine zr ?_|refine zk ?_|refine zT rfl rfl rfl ?_|refine zU rfl rfl rfl ?_|refine zV rfl rfl rfl ?_|refine zf rfl ?_|refine zt rfl ?_)
  refine o_call (same20_yes (l := nums) (hL11.kp (s13.kp []) (by simp)) (hn11.kp (s13.kp []) (by simp)) rfl rfl (by omega)) rfl rfl rfl ?_
  rintro v w14 ⟨rfl, s14⟩
  have s14 := s13.trans s14
  (repeat first|refine zA ?_|refine zB ?_|refine zC ?_|refine zD ?_|refine zE ?_|refine zg ?_|refine zo rfl rfl (by first|exact trivial|(simp only[AllP];omega)|(simp(discharger:=omega)only[AllP,cA,cB];omega)|(simp only[AllP,cC,cD,cE,cF,cG];omega)) ?_|refine zn ?_|refine zb ?_|refine ze rfl ?_|refine zr ?_|refine zk ?_|refine zT rfl rfl rfl ?_|refine zU rfl rfl rfl ?_|refine zV rfl rfl rfl ?_|refine zf rfl ?_|refine zt rfl ?_)
  obtain ⟨bl9, L9, rfl, hB9, _, _⟩ := ho11.wr (i := nums.length) (by omega)
  have h77 : w14.cell? ⟨bl9, 0 + nums.length, none⟩ = some (I 77) := by
    have hB14 := (s14.kp []).blk (by simp) hB9
    have := (ho11.kp (s14.kp []) (by simp)).get (i := nums.length) (v := I 77) (by simp)
    rw [Nat.zero_add]; exact this
  refine zo rfl rfl (by simp only [AllP]; omega) ?_
  refine o_loadc rfl h77 rfl rfl rfl rfl ?_
  (repeat first|refine zA ?_|refine zB ?_|refine zC ?_|refine zD ?_|refine zE ?_|refine zg ?_|refine zo rfl rfl (by first|exact trivial|(simp only[AllP];omega)|(simp(discharger:=omega)only[AllP,cA,cB];omega)|(simp only[AllP,cC,cD,cE,cF,cG];omega)) ?_|refine zn ?_|refine zb ?_|refine ze rfl ?_|refine zr ?_|refine zk ?_|refine zT rfl rfl rfl ?_|refine zU rfl rfl rfl ?_|refine zV rfl rfl rfl ?_|refine zf rfl ?_|refine zt rfl ?_)
  have hP14 := hP11.kp (s14.kp []) (by simp)
  have hQ14 := hQ11.kp (s14.kp []) (by simp)
  have hW14 := hW.own.kp (s14.kp []) (by simp)
  have k014 := k011.trans (s14.kp [])
  have hPb : ∀ b, b ∈ blkOf pad9 → w8.heap.size ≤ b ∧ b < w9.heap.size := fun b hb => ⟨hP.new b hb, hP.own.lt b hb⟩
  have yQ := hQ.kp.size
  have yW := hW.kp.size
  have z14 := (s14.kp []).size
  have z58 := k58.size
  have z03 := k03.size
  have yP := hP.kp.size
  refine r_loop (α := Nat) [2, 7, 9, 12, 13, 14, 15] (fun i => [.slice nad nums.length ncap, .pointer pa, .pointer pb, .slice pad9 pl.length pcap9, .slice qad pl.length qcap, .slice wad pl.length wcap, I i]) (fun i W => ∃ xs : List Int, xs.length = pl.length ∧ OwnS W 3 1 pad9 pl.length pcap9 (xs.map I) ∧ Kp (blkOf pad9) w14 W) (fun i => pl.length - i) 0 rfl ⟨pl, rfl, hP14, Kp.refl _ _⟩ ?_
  rintro i e W ⟨xs, hxl, hO, hk⟩
  (repeat first|refine zA ?_|refine zB ?_|refine zC ?_|refine zD ?_|refine zE ?_|refine zg ?_|refine zo rfl rfl (by first|exact trivial|(simp only[AllP];omega)|(simp(discharger:=omega)only[AllP,cA,cB];omega)|(simp only[AllP,cC,cD,cE,cF,cG];omega)) ?_|refine zn ?_|refine zb ?_|refine ze rfl ?_|refine zr ?_|refine zk ?_|refine zT rfl rfl rfl ?_|refine zU rfl rfl rfl ?_|refine zV rfl rfl rfl ?_|refine zf rfl ?_|refine zt rfl ?_)
  refine r_if rfl (fun hc => ?_) (fun hc => ?_)
  · obtain ⟨b, L, rfl, hBL, hiL, hwr⟩ := hO.wr1 (i := i) (by omega) (-5)
    (repeat first|refine zA ?_|refine zB ?_|refine zC ?_|refine zD ?_|refine zE ?_|refine zg ?_|refine zo rfl rfl (by first|exact trivial|(simp only[AllP];omega)|(simp(discharger:=omega)only[AllP,cA,cB];omega)|(simp only[AllP,cC,cD,cE,cF,cG];omega)) ?_|refine zn ?_|refine zb ?_|refine ze rfl ?_|refine zr ?_|refine zk ?_|refine zT rfl rfl rfl ?_|refine zU rfl rfl rfl ?_|refine zV rfl rfl rfl ?_|refine zf rfl ?_|refine zt rfl ?_)
    refine o_store rfl hBL (by omega) rfl rfl rfl rfl rfl rfl ?_
    intro W2 hu
    have ho2 := hwr W2 (by simpa using hu)
    (repeat first|refine zA ?_|refine zB ?_|refine zC ?_|refine zD ?_|refine zE ?_|refine zg ?_|refine zo rfl rfl (by first|exact trivial|(simp only[AllP];omega)|(simp(discharger:=omega)only[AllP,cA,cB];omega)|(simp only[AllP,cC,cD,cE,cF,cG];omega)) ?_|refine zn ?_|refine zb ?_|refine ze rfl ?_|refine zr ?_|refine zk ?_|refine zT rfl rfl rfl ?_|refine zU rfl rfl rfl ?_|refine zV rfl rfl rfl ?_|refine zf rfl ?_|refine zt rfl ?_)
    exact ⟨i + 1, rfl, ⟨xs.set i (-5), by simp [hxl], ho2, hk.trans (hu.kp _ (.inl (by simp [blkOf])))⟩, by omega⟩
  (repeat first|refine zA ?_|refine zB ?_|refine zC ?_|refine zD ?_|refine zE ?_|refine zg ?_|refine zo rfl rfl (by first|exact trivial|(simp only[AllP];omega)|(simp(discharger:=omega)only[AllP,cA,cB];omega)|(simp only[AllP,cC,cD,cE,cF,cG];omega)) ?_|refine zn ?_|refine zb ?_|refine ze rfl ?_|refine zr ?_|refine zk ?_|refine zT rfl rfl rfl ?_|refine zU rfl rfl rfl ?_|refine zV rfl rfl rfl ?_|refine zf rfl ?_|refine zt rfl ?_)
  refine r_loop (α := Nat × Option Addr × Nat) [2, 7, 9, 12, 13, 14, 16] (fun x => [.slice nad nums.length ncap, .pointer pa, .pointer pb, .slice x.2.1 (pl.length + x.1) x.2.2, .slice qad pl.length qcap, .slice wad pl.length wcap, I x.1]) (fun x W => x.1 ≤ 70 ∧ (∃ xs : List Value, OwnS W 3 1 x.2.1 (pl.length + x.1) x.2.2 xs) ∧ Kp (blkOf pad9) w14 W ∧ (∀ b, b ∈ blkOf x.2.1 → b ∈ blkOf pad9 ∨ w14.heap.size ≤ b)) (fun x => 70 - x.1) (0, pad9, pcap9) rfl ⟨by omega, ⟨_, hO⟩, hk, fun b hb => .inl hb⟩ ?_
  clear hO hk hxl xs hc
  rintro ⟨i2, ax, cx⟩ e W2 ⟨hi70, ⟨xs, hO⟩, hk2, hnx⟩
  dsimp only at hi70 hO hnx ⊢
  (repeat first|refine zA ?_|refine zB ?_|refine zC ?_|refine zD ?_|refine zE ?_|refine zg ?_|refine zo rfl rfl (by first|exact trivial|(simp only[AllP];omega)|(simp(discharger:=omega)only[AllP,cA,cB];omega)|(simp only[AllP,cC,cD,cE,cF,cG];omega)) ?_|refine zn ?_|refine zb ?_|refine ze rfl ?_|refine zr ?_|refine zk ?_|refine zT rfl rfl rfl ?_|refine zU rfl rfl rfl ?_|refine zV rfl rfl rfl ?_|refine zf rfl ?_|refine zt rfl ?_)
  refine r_if rfl (fun hc => ?_) (fun hc => ?_)
  · (repeat first|refine zA ?_|refine zB ?_|refine zC ?_|refine zD ?_|refine zE ?_|refine zg ?_|refine zo rfl rfl (by first|exact trivial|(simp only[AllP];omega)|(simp(discharger:=omega)only[AllP,cA,cB];omega)|(simp only[AllP,cC,cD,cE,cF,cG];omega)) ?_|refine zn ?_|refine zb ?_|refine ze rfl ?_|refine zr ?_|refine zk ?_|refine zT rfl rfl rfl ?_|refine zU rfl rfl rfl ?_|refine zV rfl rfl rfl ?_|refine zf rfl ?_|refine zt rfl ?_)
    refine o_buildSlice [I (-5)] rfl (by simp [Value.oneCell']) rfl (by decide) (by decide) rfl rfl rfl rfl rfl ?_
    intro bb W3 hbb hu2
    have k2 : Kp [] W2 W3 := hu2.kp [] (.inr (by omega))
    refine o_append1 rfl rfl (hO.kp k2 (by simp)) hu2.blk rfl rfl rfl rfl (by simp only [maxLen]; omega) (by omega) rfl rfl ?_
    intro a3 c3 W3 hO3 k3 hn3
    have zz := hk2.size
    have zz2 := k2.size
    (repeat first|refine zA ?_|refine zB ?_|refine zC ?_|refine zD ?_|refine zE ?_|refine zg ?_|refine zo rfl rfl (by first|exact trivial|(simp only[AllP];omega)|(simp(discharger:=omega)only[AllP,cA,cB];omega)|(simp only[AllP,cC,cD,cE,cF,cG];omega)) ?_|refine zn ?_|refine zb ?_|refine ze rfl ?_|refine zr ?_|refine zk ?_|refine zT rfl rfl rfl ?_|refine zU rfl rfl rfl ?_|refine zV rfl rfl rfl ?_|refine zf rfl ?_|refine zt rfl ?_)
    refine ⟨(i2 + 1, a3, c3), rfl, ⟨by dsimp only; omega, ⟨_, hO3⟩, (hk2.trans (k2.mono (by simp))).after k3 hnx, fun b hb => ?_⟩, by dsimp only; omega⟩
    rcases hn3 b hb with q | q
    · exact hnx b q
    · exact .inr (by omega)
  have hQ2 := hQ14.kp hk2 (fun b hb hb2 => by have := hQ.new b hb; have := (hPb b hb2).2; omega)
  have hW2 := hW14.kp hk2 (fun b hb hb2 => by have := hW.new b hb; have := (hPb b hb2).2; omega)
  have k02 : Kp [] w W2 := k014.since hk2 (fun b hb => by have := (hPb b hb).1; omega)
  have k52 : Kp [] w5 W2 := ((((k58.trans hP.kp).trans hQ.kp).trans hW.kp).trans (s14.kp [])).since hk2 (fun b hb => by have := (hPb b hb).1; omega)
  have hOa2 := hOa.kp0 k52
  have hRb2 := hRb.kp0 k52
  have hn2 := hn.kp k02 (by simp)
  (repeat first|refine zA ?_|refine zB ?_|refine zC ?_|refine zD ?_|refine zE ?_|refine zg ?_|refine zo rfl rfl (by first|exact trivial|(simp only[AllP];omega)|(simp(discharger:=omega)only[AllP,cA,cB];omega)|(simp only[AllP,cC,cD,cE,cF,cG];omega)) ?_|refine zn ?_|refine zb ?_|refine ze rfl ?_|refine zr ?_|refine zk ?_|refine zT rfl rfl rfl ?_|refine zU rfl rfl rfl ?_|refine zV rfl rfl rfl ?_|refine zf rfl ?_|refine zt rfl ?_)
  refine o_call (same20_yes (l := pl) hQ2.read hW2.read rfl rfl hPL) rfl rfl rfl ?_
  rintro v w15 ⟨rfl, s15⟩
  have hOa2 := hOa2.kp0 (s15.kp [])
  have hRb2 := hRb2.kp0 (s15.kp [])
  have hn2 := hn2.kp (s15.kp []) (by simp)
  have k015 := k02.trans (s15.kp [])
  (repeat first|refine zA ?_|refine zB ?_|refine zC ?_|refine zD ?_|refine zE ?_|refine zg ?_|refine zo rfl rfl (by first|exact trivial|(simp only[AllP];omega)|(simp(discharger:=omega)only[AllP,cA,cB];omega)|(simp only[AllP,cC,cD,cE,cF,cG];omega)) ?_|refine zn ?_|refine zb ?_|refine ze rfl ?_|refine zr ?_|refine zk ?_|refine zT rfl rfl rfl ?_|refine zU rfl rfl rfl ?_|refine zV rfl rfl rfl ?_|refine zf rfl ?_|refine zt rfl ?_)
  clear hO hnx hc
  refine r_loop (α := Nat) [2, 7, 9, 17] (fun i => [.slice nad nums.length ncap, .pointer pa, .pointer pb, I i]) (fun i W => i ≤ nums.length ∧ Kp [] w15 W) (fun i => nums.length - i) 0 rfl ⟨by omega, Kp.refl _ _⟩ ?_
  rintro i e W ⟨hin, kW⟩
  have hlen : nums.length ≤ 1048576 := hnl
  (repeat first|refine zA ?_|refine zB ?_|refine zC ?_|refine zD ?_|refine zE ?_|refine zg ?_|refine zo rfl rfl (by first|exact trivial|(simp only[AllP];omega)|(simp(discharger:=omega)only[AllP,cA,cB];omega)|(simp only[AllP,cC,cD,cE,cF,cG];omega)) ?_|refine zn ?_|refine zb ?_|refine ze rfl ?_|refine zr ?_|refine zk ?_|refine zT rfl rfl rfl ?_|refine zU rfl rfl rfl ?_|refine zV rfl rfl rfl ?_|refine zf rfl ?_|refine zt rfl ?_)
  refine r_if rfl (fun hc => ?_) (fun hc => ?_)
  · have hi1 : i + 1 < nums.length := by omega
    obtain ⟨nb, no, rfl, _, hnc⟩ := hn2.at_ (by simp; omega)
    have hnum : ∀ W, Kp [] w15 W → ∀ (x : Int) j (hj : j < nums.length), x.toNat = j → W.cell? ⟨nb, no + x.toNat, none⟩ = some (I nums[j]) := fun W hW x j hj hx => by
      obtain ⟨nb', no', h1, _, h3⟩ := (hn2.kp hW (by simp)).at_ (by simp; omega)
      cases h1
      rw [hx]
      exact h3 j _ (by simp [List.getElem?_eq_getElem hj])
    (repeat first|refine zA ?_|refine zB ?_|refine zC ?_|refine zD ?_|refine zE ?_|refine zg ?_|refine zo rfl rfl (by first|exact trivial|(simp only[AllP];omega)|(simp(discharger:=omega)only[AllP,cA,cB];omega)|(simp only[AllP,cC,cD,cE,cF,cG];omega)) ?_|refine zn ?_|refine zb ?_|refine ze rfl ?_|refine zr ?_|refine zk ?_|refine zT rfl rfl rfl ?_|refine zU rfl rfl rfl ?_|refine zV rfl rfl rfl ?_|refine zf rfl ?_|refine zt rfl ?_)
    refine r_seq ?_
    refine r_mix (fun w' => Kp [] W w') [(0, false), (1, false), (2, false), (3, false), (4, false), (5, false), (6, false), (7, false), (8, false), (9, false), (10, true), (11, false)] follows_mixed (by kernel_rfl) (by kernel_rfl) (by kernel_rfl) ((Sm.drew W).kp _) ?_
    have kd24 := (Sm.drew W).kp []
    have kk24 := kW.trans kd24
    generalize ({ W with drawn := W.drawn + 1 } : World) = Wa at kd24 kk24 ⊢
    (repeat first|refine xo rfl rfl (by first|exact trivial|(simp only[AllP];omega)|(simp(discharger:=omega)only[AllP,cA,cB];omega)|(simp only[AllP,cC,cD,cE,cF,cG];omega)) ?_|refine xn ?_|refine x_know rfl _ _ (some true) rfl rfl rfl ?_|refine x_know rfl _ _ (some false) rfl rfl rfl ?_|refine x_know rfl _ _ none rfl rfl rfl ?_)
    refine x_load (v := I (nums[i])) rfl rfl (fun w' h' => hnum w' (kW.trans h') _ i (by omega) (by omega)) rfl rfl rfl rfl ?_
    (repeat first|refine xo rfl rfl (by first|exact trivial|(simp only[AllP];omega)|(simp(discharger:=omega)only[AllP,cA,cB];omega)|(simp only[AllP,cC,cD,cE,cF,cG];omega)) ?_|refine xn ?_|refine x_know rfl _ _ (some true) rfl rfl rfl ?_|refine x_know rfl _ _ (some false) rfl rfl rfl ?_|refine x_know rfl _ _ none rfl rfl rfl ?_)
    refine x_load (v := I (nums[i + 1])) rfl rfl (fun w' h' => hnum w' (kW.trans h') _ (i + 1) (by omega) (by omega)) rfl rfl rfl rfl ?_
    (repeat first|refine xo rfl rfl (by first|exact trivial|(simp only[AllP];omega)|(simp(discharger:=omega)only[AllP,cA,cB];omega)|(simp only[AllP,cC,cD,cE,cF,cG];omega)) ?_|refine xn ?_|refine x_know rfl _ _ (some true) rfl rfl rfl ?_|refine x_know rfl _ _ (some false) rfl rfl rfl ?_|refine x_know rfl _ _ none rfl rfl rfl ?_)
    refine x_act rfl ?_
    refine o_call (oChain_any (hOa2.kp0 kk24) _ _) rfl rfl rfl ?_
    rintro v W3 ⟨lc, cad, ccap, hlc, rfl, hC⟩
    refine o_nil ⟨.inr (kd24.trans hC.kp), ?_⟩
    have kb24 := kk24.trans hC.kp
    (repeat first|refine xo rfl rfl (by first|exact trivial|(simp only[AllP];omega)|(simp(discharger:=omega)only[AllP,cA,cB];omega)|(simp only[AllP,cC,cD,cE,cF,cG];omega)) ?_|refine xn ?_|refine x_know rfl _ _ (some true) rfl rfl rfl ?_|refine x_know rfl _ _ (some false) rfl rfl rfl ?_|refine x_know rfl _ _ none rfl rfl rfl ?_)
    refine r_seq ?_
    refine r_mix (fun w' => Kp [] W3 w') [(0, false), (1, false), (2, false), (3, false), (4, false), (5, false), (6, false), (7, false), (8, false), (9, false), (10, true), (11, false)] follows_mixed (by kernel_rfl) (by kernel_rfl) (by kernel_rfl) ((Sm.drew W3).kp _) ?_
    have kd25 := (Sm.drew W3).kp []
    have kk25 := kb24.trans kd25
    generalize ({ W3 with drawn := W3.drawn + 1 } : World) = Wb at kd25 kk25 ⊢
    (repeat first|refine xo rfl rfl (by first|exact trivial|(simp only[AllP];omega)|(simp(discharger:=omega)only[AllP,cA,cB];omega)|(simp only[AllP,cC,cD,cE,cF,cG];omega)) ?_|refine xn ?_|refine x_know rfl _ _ (some true) rfl rfl rfl ?_|refine x_know rfl _ _ (some false) rfl rfl rfl ?_|refine x_know rfl _ _ none rfl rfl rfl ?_)
    refine x_load (v := I (nums[i])) rfl rfl (fun w' h' => hnum w' (kb24.trans h') _ i (by omega) (by omega)) rfl rfl rfl rfl ?_
    (repeat first|refine xo rfl rfl (by first|exact trivial|(simp only[AllP];omega)|(simp(discharger:=omega)only[AllP,cA,cB];omega)|(simp only[AllP,cC,cD,cE,cF,cG];omega)) ?_|refine xn ?_|refine x_know rfl _ _ (some true) rfl rfl rfl ?_|refine x_know rfl _ _ (some false) rfl rfl rfl ?_|refine x_know rfl _ _ none rfl rfl rfl ?_)
    refine x_load (v := I (nums[i + 1])) rfl rfl (fun w' h' => hnum w' (kb24.trans h') _ (i + 1) (by omega) (by omega)) rfl rfl rfl rfl ?_
    (repeat first|refine xo rfl rfl (by first|exact trivial|(simp only[AllP];omega)|(simp(discharger:=omega)only[AllP,cA,cB];omega)|(simp only[AllP,cC,cD,cE,cF,cG];omega)) ?_|refine xn ?_|refine x_know rfl _ _ (some true) rfl rfl rfl ?_|refine x_know rfl _ _ (some false) rfl rfl rfl ?_|refine x_know rfl _ _ none rfl rfl rfl ?_)
    refine x_act rfl ?_
    refine o_call (oChain_any (hOa2.kp0 kk25) _ _) rfl rfl rfl ?_
    rintro v W4 ⟨ld, dad, dcap, hld, rfl, hD⟩
    refine o_nil ⟨.inr (kd25.trans hD.kp), ?_⟩
    have kb25 := kk25.trans hD.kp
    (repeat first|refine xo rfl rfl (by first|exact trivial|(simp only[AllP];omega)|(simp(discharger:=omega)only[AllP,cA,cB];omega)|(simp only[AllP,cC,cD,cE,cF,cG];omega)) ?_|refine xn ?_|refine x_know rfl _ _ (some true) rfl rfl rfl ?_|refine x_know rfl _ _ (some false) rfl rfl rfl ?_|refine x_know rfl _ _ none rfl rfl rfl ?_)
    refine r_seq ?_
    refine r_mix (fun w' => Kp [] W4 w') [(0, false), (1, false), (2, false), (3, false), (4, false), (5, false), (6, false), (7, false), (8, false), (9, false), (10, true), (11, false)] follows_mixed (by kernel_rfl) (by kernel_rfl) (by kernel_rfl) ((Sm.drew W4).kp _) ?_
    have kd26 := (Sm.drew W4).kp []
    have kk26 := kb25.trans kd26
    generalize ({ W4 with drawn := W4.drawn + 1 } : World) = Wc at kd26 kk26 ⊢
    (repeat first|refine xo rfl rfl (by first|exact trivial|(simp only[AllP];omega)|(simp(discharger:=omega)only[AllP,cA,cB];omega)|(simp only[AllP,cC,cD,cE,cF,cG];omega)) ?_|refine xn ?_|refine x_know rfl _ _ (some true) rfl rfl rfl ?_|refine x_know rfl _ _ (some false) rfl rfl rfl ?_|refine x_know rfl _ _ none rfl rfl rfl ?_)
    refine x_load (v := I (nums[i])) rfl rfl (fun w' h' => hnum w' (kb25.trans h') _ i (by omega) (by omega)) rfl rfl rfl rfl ?_
    (repeat first|refine xo rfl rfl (by first|exact trivial|(simp only[AllP];omega)|(simp(discharger:=omega)only[AllP,cA,cB];omega)|(simp only[AllP,cC,cD,cE,cF,cG];omega)) ?_|refine xn ?_|refine x_know rfl _ _ (some true) rfl rfl rfl ?_|refine x_know rfl _ _ (some false) rfl rfl rfl ?_|refine x_know rfl _ _ none rfl rfl rfl ?_)
    refine x_load (v := I (nums[i + 1])) rfl rfl (fun w' h' => hnum w' (kb25.trans h') _ (i + 1) (by omega) (by omega)) rfl rfl rfl rfl ?_
    (repeat first|refine xo rfl rfl (by first|exact trivial|(simp only[AllP];omega)|(simp(discharger:=omega)only[AllP,cA,cB];omega)|(simp only[AllP,cC,cD,cE,cF,cG];omega)) ?_|refine xn ?_|refine x_know rfl _ _ (some true) rfl rfl rfl ?_|refine x_know rfl _ _ (some false) rfl rfl rfl ?_|refine x_know rfl _ _ none rfl rfl rfl ?_)
    refine x_act rfl ?_
    refine o_call (rChain_any (hRb2.kp0 kk26) _ _) rfl rfl rfl ?_
    rintro v W5 ⟨lh, had, hcap, hlh, rfl, hH⟩
    refine o_nil ⟨.inr (kd26.trans hH.kp), ?_⟩
    have kb26 := kk26.trans hH.kp
    (repeat first|refine xo rfl rfl (by first|exact trivial|(simp only[AllP];omega)|(simp(discharger:=omega)only[AllP,cA,cB];omega)|(simp only[AllP,cC,cD,cE,cF,cG];omega)) ?_|refine xn ?_|refine x_know rfl _ _ (some true) rfl rfl rfl ?_|refine x_know rfl _ _ (some false) rfl rfl rfl ?_|refine x_know rfl _ _ none rfl rfl rfl ?_)
    have e1 := hlc.uniq hlh
    have e2 := hld.uniq hlh
    subst e1 e2
    have hm : ld.length ≤ 9223372036854775807 := by have := hD.own.le_max; simp only [maxLen] at this; omega
    have hC5 := (((hC.own.kp kd25 (by simp)).kp hD.kp (by simp)).kp kd26 (by simp)).kp hH.kp (by simp)
    have hD5 := (hD.own.kp kd26 (by simp)).kp hH.kp (by simp)
    (repeat first|refine zA ?_|refine zB ?_|refine zC ?_|refine zD ?_|refine zE ?_|refine zg ?_|refine zo rfl rfl (by first|exact trivial|(simp only[AllP];omega)|(simp(discharger:=omega)only[AllP,cA,cB];omega)|(simp only[AllP,cC,cD,cE,cF,cG];omega)) ?_|refine zn ?_|refine zb ?_|refine ze rfl ?_|refine zr ?_|refine zk ?_|refine zT rfl rfl rfl ?_|refine zU rfl rfl rfl ?_|refine zV rfl rfl rfl ?_|refine zf rfl ?_|refine zt rfl ?_)
    refine o_call (same20_yes hC5.read hH.own.read (by simp) (by simp) hm) rfl rfl rfl ?_
    rintro v w16 ⟨rfl, s16⟩
    (repeat first|refine zA ?_|refine zB ?_|refine zC ?_|refine zD ?_|refine zE ?_|refine zg ?_|refine zo rfl rfl (by first|exact trivial|(simp only[AllP];omega)|(simp(discharger:=omega)only[AllP,cA,cB];omega)|(simp only[AllP,cC,cD,cE,cF,cG];omega)) ?_|refine zn ?_|refine zb ?_|refine ze rfl ?_|refine zr ?_|refine zk ?_|refine zT rfl rfl rfl ?_|refine zU rfl rfl rfl ?_|refine zV rfl rfl rfl ?_|refine zf rfl ?_|refine zt rfl ?_)
    refine o_call (same20_yes (hD5.kp (s16.kp []) (by simp)).read (hH.own.kp (s16.kp []) (by simp)).read (by simp) (by simp) hm) rfl rfl rfl ?_
    rintro v w17 ⟨rfl, s17⟩
    have s17 := s16.trans s17
    have hC17 := hC5.kp (s17.kp []) (by simp)
    have hD17 := hD5.kp (s17.kp []) (by simp)
    have hH17 := hH.own.kp (s17.kp []) (by simp)
    have k17 := (kk26.trans hH.kp).trans (s17.kp [])
    have yC := hC.kp.size
    have z25 := kd25.size
    have yD := hD.kp.size
    have z26 := kd26.size
    have yH := hH.kp.size
    have z17 := (s17.kp []).size
    have zk24 := kk24.size
    have hCb : ∀ b, b ∈ blkOf cad → Wa.heap.size ≤ b ∧ b < W3.heap.size := fun b hb => ⟨hC.new b hb, hC.own.lt b hb⟩
    have hDb : ∀ b, b ∈ blkOf dad → W3.heap.size ≤ b := fun b hb => by have := hD.new b hb; omega
    have hHb : ∀ b, b ∈ blkOf had → W3.heap.size ≤ b := fun b hb => by have := hH.new b hb; omega
    (repeat first|refine zA ?_|refine zB ?_|refine zC ?_|refine zD ?_|refine zE ?_|refine zg ?_|refine zo rfl rfl (by first|exact trivial|(simp only[AllP];omega)|(simp(discharger:=omega)only[AllP,cA,cB];omega)|(simp only[AllP,cC,cD,cE,cF,cG];omega)) ?_|refine zn ?_|refine zb ?_|refine ze rfl ?_|refine zr ?_|refine zk ?_|refine zT rfl rfl rfl ?_|refine zU rfl rfl rfl ?_|refine zV rfl rfl rfl ?_|refine zf rfl ?_|refine zt rfl ?_)
    refine r_loop (α := Nat) [2, 7, 9, 17, 18, 19, 20, 21] (fun k => [.slice (some ⟨nb, no, none⟩) nums.length ncap, .pointer pa, .pointer pb, I i, .slice cad ld.length ccap, .slice dad ld.length dcap, .slice had ld.length hcap, I k]) (fun k W' => ∃ xs : List Int, xs.length = ld.length ∧ OwnS W' 3 1 cad ld.length ccap (xs.map I) ∧ Kp (blkOf cad) w17 W') (fun k => ld.length - k) 0 rfl ⟨_, by simp, hC17, Kp.refl _ _⟩ ?_
    rintro k e W6 ⟨xs, hxl, hO, hk⟩
    (repeat first|refine zA ?_|refine zB ?_|refine zC ?_|refine zD ?_|refine zE ?_|refine zg ?_|refine zo rfl rfl (by first|exact trivial|(simp only[AllP];omega)|(simp(discharger:=omega)only[AllP,cA,cB];omega)|(simp only[AllP,cC,cD,cE,cF,cG];omega)) ?_|refine zn ?_|refine zb ?_|refine ze rfl ?_|refine zr ?_|refine zk ?_|refine zT rfl rfl rfl ?_|refine zU rfl rfl rfl ?_|refine zV rfl rfl rfl ?_|refine zf rfl ?_|refine zt rfl ?_)
    refine r_if rfl (fun hc => ?_) (fun hc => ?_)
    · obtain ⟨b, L, rfl, hBL, hiL, hwr⟩ := hO.wr1 (i := k) (by omega) (-7)
      (repeat first|refine zA ?_|refine zB ?_|refine zC ?_|refine zD ?_|refine zE ?_|refine zg ?_|refine zo rfl rfl (by first|exact trivial|(simp only[AllP];omega)|(simp(discharger:=omega)only[AllP,cA,cB];omega)|(simp only[AllP,cC,cD,cE,cF,cG];omega)) ?_|refine zn ?_|refine zb ?_|refine ze rfl ?_|refine zr ?_|refine zk ?_|refine zT rfl rfl rfl ?_|refine zU rfl rfl rfl ?_|refine zV rfl rfl rfl ?_|refine zf rfl ?_|refine zt rfl ?_)
      refine o_store rfl hBL (by omega) rfl rfl rfl rfl rfl rfl ?_
      intro W7 hu
      have ho2 := hwr W7 (by simpa using hu)
      (repeat first|refine zA ?_|refine zB ?_|refine zC ?_|refine zD ?_|refine zE ?_|refine zg ?_|refine zo rfl rfl (by first|exact trivial|(simp only[AllP];omega)|(simp(discharger:=omega)only[AllP,cA,cB];omega)|(simp only[AllP,cC,cD,cE,cF,cG];omega)) ?_|refine zn ?_|refine zb ?_|refine ze rfl ?_|refine zr ?_|refine zk ?_|refine zT rfl rfl rfl ?_|refine zU rfl rfl rfl ?_|refine zV rfl rfl rfl ?_|refine zf rfl ?_|refine zt rfl ?_)
      exact ⟨k + 1, rfl, ⟨xs.set k (-7), by simp [hxl], ho2, hk.trans (hu.kp _ (.inl (by simp [blkOf])))⟩, by omega⟩
    have hD6 := hD17.kp hk (fun b hb hb2 => by have := (hCb b hb2).2; have := hDb b hb; omega)
    have hH6 := hH17.kp hk (fun b hb hb2 => by have := (hCb b hb2).2; have := hHb b hb; omega)
    have zz := kW.size
    have zz2 := (kd24).size
    have k6 : Kp [] w15 W6 := k17.since hk (fun b hb => by have := (hCb b hb).1; omega)
    (repeat first|refine zA ?_|refine zB ?_|refine zC ?_|refine zD ?_|refine zE ?_|refine zg ?_|refine zo rfl rfl (by first|exact trivial|(simp only[AllP];omega)|(simp(discharger:=omega)only[AllP,cA,cB];omega)|(simp only[AllP,cC,cD,cE,cF,cG];omega)) ?_|refine zn ?_|refine zb ?_|refine ze rfl ?_|refine zr ?_|refine zk ?_|refine zT rfl rfl rfl ?_|refine zU rfl rfl rfl ?_|refine zV rfl rfl rfl ?_|refine zf rfl ?_|refine zt rfl ?_)
    refine o_call (same20_yes hD6.read hH6.read (by simp) (by simp) hm) rfl rfl rfl ?_
    rintro v w18 ⟨rfl, s18⟩
    (repeat first|refine zA ?_|refine zB ?_|refine zC ?_|refine zD ?_|refine zE ?_|refine zg ?_|refine zo rfl rfl (by first|exact trivial|(simp only[AllP];omega)|(simp(discharger:=omega)only[AllP,cA,cB];omega)|(simp only[AllP,cC,cD,cE,cF,cG];omega)) ?_|refine zn ?_|refine zb ?_|refine ze rfl ?_|refine zr ?_|refine zk ?_|refine zT rfl rfl rfl ?_|refine zU rfl rfl rfl ?_|refine zV rfl rfl rfl ?_|refine zf rfl ?_|refine zt rfl ?_)
    exact ⟨i + 1, rfl, ⟨by omega, k6.trans (s18.kp [])⟩, by omega⟩
  (repeat first|refine zA ?_|refine zB ?_|refine zC ?_|refine zD ?_|refine zE ?_|refine zg ?_|refine zo rfl rfl (by first|exact trivial|(simp only[AllP];omega)|(simp(discharger:=omega)only[AllP,cA,cB];omega)|(simp only[AllP,cC,cD,cE,cF,cG];omega)) ?_|refine zn ?_|refine zb ?_|refine ze rfl ?_|refine zr ?_|refine zk ?_|refine zT rfl rfl rfl ?_|refine zU rfl rfl rfl ?_|refine zV rfl rfl rfl ?_|refine zf rfl ?_|refine zt rfl ?_)
  refine o_call lives20_ret rfl rfl rfl ?_
  rintro v w19 ⟨rfl, k19⟩
  (repeat first|refine zA ?_|refine zB ?_|refine zC ?_|refine zD ?_|refine zE ?_|refine zg ?_|refine zo rfl rfl (by first|exact trivial|(simp only[AllP];omega)|(simp(discharger:=omega)only[AllP,cA,cB];omega)|(simp only[AllP,cC,cD,cE,cF,cG];omega)) ?_|refine zn ?_|refine zb ?_|refine ze rfl ?_|refine zr ?_|refine zk ?_|refine zT rfl rfl rfl ?_|refine zU rfl rfl rfl ?_|refine zV rfl rfl rfl ?_|refine zf rfl ?_|refine zt rfl ?_)
  exact ⟨_, rfl, rfl, (k015.trans kW).trans k19⟩
end Go.Vc
