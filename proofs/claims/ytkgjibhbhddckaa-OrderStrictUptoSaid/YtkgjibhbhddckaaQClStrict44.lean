/- order: OrderStrict. -/
import Derived.Test.YtkgjibhbhddckaaQClStrict42
import Derived.Test.YtkgjibhbhddckaaQClStrict43
namespace Go.Vc
open Go Go.Proofs
set_option maxRecDepth 10000
variable {w : World}
/-- the races told so far -/
noncomputable def racesTo (E : List Ev) (R : List Int) (j i : Nat) : List P3 := racesN E R j ++ racesJ E R j (min i j)
theorem racesTo_small {E : List Ev} {R : List Int} {j : Nat} (i : Nat) (h : E.length ≤ 2048) (hj : j < E.length) : (racesTo E R j i).length ≤ 4194304 := by
  have h1 := racesN_le E R j
  have h2 := racesJ_le E R j (min i j)
  have h3 : j * j ≤ 2047 * 2047 := Nat.mul_le_mul (by omega) (by omega)
  unfold racesTo
  rw [List.length_append]; omega
theorem racesTo_succ (E : List Ev) (R : List Int) (j i : Nat) : racesTo E R j (i + 1) = racesTo E R j i ++ (if i < j ∧ raceI E R i j = true then [((evA E j).o, i, j)] else []) := by
  unfold racesTo
  by_cases h : i < j
  · rw [Nat.min_eq_left (by omega), Nat.min_eq_left (by omega), racesJ_succ, List.append_assoc]
    simp [h]
  · rw [Nat.min_eq_right (by omega), Nat.min_eq_right (by omega), if_neg (by omega), List.append_nil]
theorem flag_uniq {l : List F2} (hp : l.Pairwise (fun a b => a.1 < b.1)) {x y : F2} (hx : x ∈ l) (hy : y ∈ l) (e : x.1 = y.1) : x = y := by
  obtain ⟨i, hi, rfl⟩ := List.getElem_of_mem hx
  obtain ⟨j, hj, rfl⟩ := List.getElem_of_mem hy
  rw [List.pairwise_iff_getElem] at hp
  by_cases h1 : i < j
  · have := hp i j hi hj h1; omega
  · by_cases h2 : j < i
    · have := hp j i hj hi h2; omega
    · have : i = j := by omega
      subst this; rfl
set_option maxHeartbeats 25600000 in
theorem orderStrict_ret {s : Shp} {l : List Ev} {pad ead : Option Addr} {cap ecap : Nat} (hr : ReadS w pad (s.pa.map I)) (hpl : s.pa.length ≤ 1048576) (he : ReadS w ead (evsC l)) (hl : l.length ≤ 1048576) :
    Ret Try.prog 6 [.agg ⟨shC s pad cap⟩, .slice ead l.length ecap] w (fun v w' => v = .bool true ∧ Kp [] w w') := by
  refine enter Try.call6 Try.func6 rfl rfl rfl rfl ?_
  (repeat first|refine zA ?_|refine zB ?_|refine zC ?_|refine zD ?_|refine zE ?_|refine zg ?_|refine zo rfl rfl (by first|exact trivial|(simp only[AllP];omega)|(simp(discharger:=omega)only[AllP,cA,cB];omega)|(simp only[AllP,cC,cD,cE,cF,cG];omega)) ?_|refine zn ?_|refine zb ?_|refine ze rfl ?_|refine zr ?_|refine zk ?_|refine zT rfl rfl rfl ?_|refine zU rfl rfl rfl ?_|refine zV rfl rfl rfl ?_|refine zf rfl ?_|refine zt rfl ?_)
  refine o_box rfl rfl rfl ?_
  intro bx w1 hbx hu1
  have hB1 : Blk w1 bx (shC s pad cap) 24 := hu1.blk
  have k1 : Kp [] w w1 := hu1.kp [] (.inr (by omega))
  (repeat first|refine zA ?_|refine zB ?_|refine zC ?_|refine zD ?_|refine zE ?_|refine zg ?_|refine zo rfl rfl (by first|exact trivial|(simp only[AllP];omega)|(simp(discharger:=omega)only[AllP,cA,cB];omega)|(simp only[AllP,cC,cD,cE,cF,cG];omega)) ?_|refine zn ?_|refine zb ?_|refine ze rfl ?_|refine zr ?_|refine zk ?_|refine zT rfl rfl rfl ?_|refine zU rfl rfl rfl ?_|refine zV rfl rfl rfl ?_|refine zf rfl ?_|refine zt rfl ?_)
  refine o_call lives20_ret rfl rfl rfl ?_
  rintro v w2 ⟨rfl, k2⟩
  have hB2 := k2.blk (by simp) hB1
  have k02 := k1.trans k2
  clear hu1 hB1 hbx
  have hr2 := hr.kp k02 (by simp)
  have he2 := he.kp k02 (by simp)
  (repeat first|refine zA ?_|refine zB ?_|refine zC ?_|refine zD ?_|refine zE ?_|refine zg ?_|refine zo rfl rfl (by first|exact trivial|(simp only[AllP];omega)|(simp(discharger:=omega)only[AllP,cA,cB];omega)|(simp only[AllP,cC,cD,cE,cF,cG];omega)) ?_|refine zn ?_|refine zb ?_|refine ze rfl ?_|refine zr ?_|refine zk ?_|refine zT rfl rfl rfl ?_|refine zU rfl rfl rfl ?_|refine zV rfl rfl rfl ?_|refine zf rfl ?_|refine zt rfl ?_)
  refine o_loadA (vs := shC s pad cap) rfl (fun j v hv => by rw [Nat.zero_add]; exact hB2.cell hv) rfl rfl rfl rfl rfl rfl ?_
  (repeat first|refine zA ?_|refine zB ?_|refine zC ?_|refine zD ?_|refine zE ?_|refine zg ?_|refine zo rfl rfl (by first|exact trivial|(simp only[AllP];omega)|(simp(discharger:=omega)only[AllP,cA,cB];omega)|(simp only[AllP,cC,cD,cE,cF,cG];omega)) ?_|refine zn ?_|refine zb ?_|refine ze rfl ?_|refine zr ?_|refine zk ?_|refine zT rfl rfl rfl ?_|refine zU rfl rfl rfl ?_|refine zV rfl rfl rfl ?_|refine zf rfl ?_|refine zt rfl ?_)
  refine o_call (oNew_ret hr2 hpl he2 hl) rfl rfl rfl ?_
  rintro v w3 (⟨e5, hbad, rfl, k3⟩ | ⟨hs, hl2, hok, g, rfl, hO, k3, _⟩)
  · have hne := badO_ne hbad
    (repeat first|refine zA ?_|refine zB ?_|refine zC ?_|refine zD ?_|refine zE ?_|refine zg ?_|refine zo rfl rfl (by first|exact trivial|(simp only[AllP];omega)|(simp(discharger:=omega)only[AllP,cA,cB];omega)|(simp only[AllP,cC,cD,cE,cF,cG];omega)) ?_|refine zn ?_|refine zb ?_|refine ze rfl ?_|refine zr ?_|refine zk ?_|refine zT rfl rfl rfl ?_|refine zU rfl rfl rfl ?_|refine zV rfl rfl rfl ?_|refine zf rfl ?_|refine zt rfl ?_)
    refine r_yes rfl (by simp; omega) ?_
    (repeat first|refine zA ?_|refine zB ?_|refine zC ?_|refine zD ?_|refine zE ?_|refine zg ?_|refine zo rfl rfl (by first|exact trivial|(simp only[AllP];omega)|(simp(discharger:=omega)only[AllP,cA,cB];omega)|(simp only[AllP,cC,cD,cE,cF,cG];omega)) ?_|refine zn ?_|refine zb ?_|refine ze rfl ?_|refine zr ?_|refine zk ?_|refine zT rfl rfl rfl ?_|refine zU rfl rfl rfl ?_|refine zV rfl rfl rfl ?_|refine zf rfl ?_|refine zt rfl ?_)
    exact ⟨_, rfl, rfl, k02.trans k3⟩
  have k03 := k02.trans k3
  have hX : ∀ W, Kp [] w3 W → OX W (some ⟨g.p, 0, none⟩) g.F l (rnds s l l.length) := fun W k => .inr ⟨g, rfl, rfl, hO.kp0 k⟩
  have hvar := races_var hs hok
  generalize hR : rnds s l l.length = R at hX hvar
  clear hO hok hB2 hr2 he2
  have he3 := he.kp k03 (by simp)
  (repeat first|refine zA ?_|refine zB ?_|refine zC ?_|refine zD ?_|refine zE ?_|refine zg ?_|refine zo rfl rfl (by first|exact trivial|(simp only[AllP];omega)|(simp(discharger:=omega)only[AllP,cA,cB];omega)|(simp only[AllP,cC,cD,cE,cF,cG];omega)) ?_|refine zn ?_|refine zb ?_|refine ze rfl ?_|refine zr ?_|refine zk ?_|refine zT rfl rfl rfl ?_|refine zU rfl rfl rfl ?_|refine zV rfl rfl rfl ?_|refine zf rfl ?_|refine zt rfl ?_)
  refine o_call (xLen_ret (hX _ (Kp.refl _ _))) rfl rfl rfl ?_
  rintro v w4 ⟨rfl, rfl⟩
  (repeat first|refine zA ?_|refine zB ?_|refine zC ?_|refine zD ?_|refine zE ?_|refine zg ?_|refine zo rfl rfl (by first|exact trivial|(simp only[AllP];omega)|(simp(discharger:=omega)only[AllP,cA,cB];omega)|(simp only[AllP,cC,cD,cE,cF,cG];omega)) ?_|refine zn ?_|refine zb ?_|refine ze rfl ?_|refine zr ?_|refine zk ?_|refine zT rfl rfl rfl ?_|refine zU rfl rfl rfl ?_|refine zV rfl rfl rfl ?_|refine zf rfl ?_|refine zt rfl ?_)
  refine r_no rfl (by simp) ?_
  (repeat first|refine zA ?_|refine zB ?_|refine zC ?_|refine zD ?_|refine zE ?_|refine zg ?_|refine zo rfl rfl (by first|exact trivial|(simp only[AllP];omega)|(simp(discharger:=omega)only[AllP,cA,cB];omega)|(simp only[AllP,cC,cD,cE,cF,cG];omega)) ?_|refine zn ?_|refine zb ?_|refine ze rfl ?_|refine zr ?_|refine zk ?_|refine zT rfl rfl rfl ?_|refine zU rfl rfl rfl ?_|refine zV rfl rfl rfl ?_|refine zf rfl ?_|refine zt rfl ?_)
  refine r_loop (α := Nat × Option Addr × Nat) [1, 5, 7, 8, 9] (fun x => [.slice ead l.length ecap, ptr g.p, I l.length, .slice x.2.1 (racesN l R x.1).length x.2.2, I x.1])
    (fun x W => x.1 ≤ l.length ∧ OwnS W 53 3 x.2.1 (racesN l R x.1).length x.2.2 (prsC (racesN l R x.1)) ∧ Kp [] w4 W ∧ ∀ b, b ∈ blkOf x.2.1 → w4.heap.size ≤ b) (fun x => l.length - x.1) (0, none, 0) rfl ⟨by omega, ownS_nil _ _ _, Kp.refl _ _, by simp [blkOf]⟩ ?_
  rintro ⟨j, ax, cx⟩ e W ⟨hj, ho, kW, hn⟩
  dsimp only at hj ho hn ⊢
  (repeat first|refine zA ?_|refine zB ?_|refine zC ?_|refine zD ?_|refine zE ?_|refine zg ?_|refine zo rfl rfl (by first|exact trivial|(simp only[AllP];omega)|(simp(discharger:=omega)only[AllP,cA,cB];omega)|(simp only[AllP,cC,cD,cE,cF,cG];omega)) ?_|refine zn ?_|refine zb ?_|refine ze rfl ?_|refine zr ?_|refine zk ?_|refine zT rfl rfl rfl ?_|refine zU rfl rfl rfl ?_|refine zV rfl rfl rfl ?_|refine zf rfl ?_|refine zt rfl ?_)
  refine r_if rfl (fun hc => ?_) (fun hc => ?_)
  · have hjl : j < l.length := by omega
    (repeat first|refine zA ?_|refine zB ?_|refine zC ?_|refine zD ?_|refine zE ?_|refine zg ?_|refine zo rfl rfl (by first|exact trivial|(simp only[AllP];omega)|(simp(discharger:=omega)only[AllP,cA,cB];omega)|(simp only[AllP,cC,cD,cE,cF,cG];omega)) ?_|refine zn ?_|refine zb ?_|refine ze rfl ?_|refine zr ?_|refine zk ?_|refine zT rfl rfl rfl ?_|refine zU rfl rfl rfl ?_|refine zV rfl rfl rfl ?_|refine zf rfl ?_|refine zt rfl ?_)
    have e0 : racesN l R j = racesTo l R j 0 := by unfold racesTo; rw [Nat.zero_min]; simp [racesJ]
    refine r_loop (α := Nat × Option Addr × Nat) [1, 5, 7, 8, 9, 10] (fun x => [.slice ead l.length ecap, ptr g.p, I l.length, .slice x.2.1 (racesTo l R j x.1).length x.2.2, I j, I x.1])
      (fun x W => x.1 ≤ l.length ∧ OwnS W 53 3 x.2.1 (racesTo l R j x.1).length x.2.2 (prsC (racesTo l R j x.1)) ∧ Kp [] w4 W ∧ ∀ b, b ∈ blkOf x.2.1 → w4.heap.size ≤ b) (fun x => l.length - x.1) (0, ax, cx) (by dsimp only; rw [← e0]; rfl) ⟨by dsimp only; omega, by dsimp only; rw [← e0]; exact ho, kW, hn⟩ ?_
    clear ho kW hn e0
    rintro ⟨i, ay, cy⟩ e W2 ⟨hi, ho, kW, hn⟩
    dsimp only at hi ho hn ⊢
    (repeat first|refine zA ?_|refine zB ?_|refine zC ?_|refine zD ?_|refine zE ?_|refine zg ?_|refine zo rfl rfl (by first|exact trivial|(simp only[AllP];omega)|(simp(discharger:=omega)only[AllP,cA,cB];omega)|(simp only[AllP,cC,cD,cE,cF,cG];omega)) ?_|refine zn ?_|refine zb ?_|refine ze rfl ?_|refine zr ?_|refine zk ?_|refine zT rfl rfl rfl ?_|refine zU rfl rfl rfl ?_|refine zV rfl rfl rfl ?_|refine zf rfl ?_|refine zt rfl ?_)
    refine r_if rfl (fun hc2 => ?_) (fun hc2 => ?_)
    · have hil : i < l.length := by omega
      (repeat first|refine zA ?_|refine zB ?_|refine zC ?_|refine zD ?_|refine zE ?_|refine zg ?_|refine zo rfl rfl (by first|exact trivial|(simp only[AllP];omega)|(simp(discharger:=omega)only[AllP,cA,cB];omega)|(simp only[AllP,cC,cD,cE,cF,cG];omega)) ?_|refine zn ?_|refine zb ?_|refine ze rfl ?_|refine zr ?_|refine zk ?_|refine zT rfl rfl rfl ?_|refine zU rfl rfl rfl ?_|refine zV rfl rfl rfl ?_|refine zf rfl ?_|refine zt rfl ?_)
      refine o_call (linked20_yes (hX _ kW) i j (by omega) (by omega)) rfl rfl rfl ?_
      rintro v w5 ⟨rfl, k5⟩
      have k45 := kW.trans k5
      (repeat first|refine zA ?_|refine zB ?_|refine zC ?_|refine zD ?_|refine zE ?_|refine zg ?_|refine zo rfl rfl (by first|exact trivial|(simp only[AllP];omega)|(simp(discharger:=omega)only[AllP,cA,cB];omega)|(simp only[AllP,cC,cD,cE,cF,cG];omega)) ?_|refine zn ?_|refine zb ?_|refine ze rfl ?_|refine zr ?_|refine zk ?_|refine zT rfl rfl rfl ?_|refine zU rfl rfl rfl ?_|refine zV rfl rfl rfl ?_|refine zf rfl ?_|refine zt rfl ?_)
      refine o_call (xAside_ret (hX _ k45) i j) rfl rfl rfl ?_
      rintro v w6 ⟨rfl, k6⟩
      have k46 := k45.trans k6
      have h56 := k5.trans k6
      (repeat first|refine zA ?_|refine zB ?_|refine zC ?_|refine zD ?_|refine zE ?_|refine zg ?_|refine zo rfl rfl (by first|exact trivial|(simp only[AllP];omega)|(simp(discharger:=omega)only[AllP,cA,cB];omega)|(simp only[AllP,cC,cD,cE,cF,cG];omega)) ?_|refine zn ?_|refine zb ?_|refine ze rfl ?_|refine zr ?_|refine zk ?_|refine zT rfl rfl rfl ?_|refine zU rfl rfl rfl ?_|refine zV rfl rfl rfl ?_|refine zf rfl ?_|refine zt rfl ?_)
      refine o_bool [1, 5, 7, 8, 9, 10] [.slice ead l.length ecap, ptr g.p, I l.length, .slice ay (racesTo l R j i).length cy, I j, I i] 79 false (fun w' => w' = w6) ?_ ?_
      · have ea : asideB l R i j = (decide (i ≠ j) && (!befI l R i j && !befI l R j i)) := by
          unfold asideB
          rw [decide_eq_true (p := (0 : Int) ≤ (i : Int) ∧ (i : Int) < (l.length : Int)) ⟨by omega, by omega⟩, decide_eq_true (p := (0 : Int) ≤ (j : Int) ∧ (j : Int) < (l.length : Int)) ⟨by omega, by omega⟩]
          simp only [Bool.true_and]
          congr 1
          exact decide_eq_decide.2 (by omega)
        rw [ea]
        by_cases hij : i = j
        · refine o_is false 13 true rfl rfl rfl (by simp [hij]) ?_
          (repeat first|refine zo rfl rfl (by first|exact trivial|(simp only[AllP];omega)|(simp(discharger:=omega)only[AllP,cA,cB];omega)|(simp only[AllP,cC,cD,cE,cF,cG];omega)) ?_|refine zn ?_|refine zT rfl rfl rfl ?_|refine zU rfl rfl rfl ?_|refine zV rfl rfl rfl ?_)
          exact ⟨rfl, ⟨_, rfl, by simp [hij]⟩, rfl⟩
        · refine o_is true 13 true rfl rfl rfl (by simp; omega) ?_
          (repeat first|refine zo rfl rfl (by first|exact trivial|(simp only[AllP];omega)|(simp(discharger:=omega)only[AllP,cA,cB];omega)|(simp only[AllP,cC,cD,cE,cF,cG];omega)) ?_|refine zn ?_|refine zT rfl rfl rfl ?_|refine zU rfl rfl rfl ?_|refine zV rfl rfl rfl ?_)
          refine o_call (xBefore_ret (hX _ k46) i j) rfl rfl rfl ?_
          rintro v w7 ⟨rfl, rfl⟩
          cases hb1 : befI l R i j with
          | true =>
            (repeat first|refine zo rfl rfl (by first|exact trivial|(simp only[AllP];omega)|(simp(discharger:=omega)only[AllP,cA,cB];omega)|(simp only[AllP,cC,cD,cE,cF,cG];omega)) ?_|refine zn ?_|refine zT rfl rfl rfl ?_|refine zU rfl rfl rfl ?_|refine zV rfl rfl rfl ?_)
            exact ⟨rfl, ⟨_, rfl, by simp⟩, rfl⟩
          | false =>
            (repeat first|refine zo rfl rfl (by first|exact trivial|(simp only[AllP];omega)|(simp(discharger:=omega)only[AllP,cA,cB];omega)|(simp only[AllP,cC,cD,cE,cF,cG];omega)) ?_|refine zn ?_|refine zT rfl rfl rfl ?_|refine zU rfl rfl rfl ?_|refine zV rfl rfl rfl ?_)
            refine o_call (xBefore_ret (hX _ k46) j i) rfl rfl rfl ?_
            rintro v w7 ⟨rfl, rfl⟩
            (repeat first|refine zo rfl rfl (by first|exact trivial|(simp only[AllP];omega)|(simp(discharger:=omega)only[AllP,cA,cB];omega)|(simp only[AllP,cC,cD,cE,cF,cG];omega)) ?_|refine zn ?_|refine zT rfl rfl rfl ?_|refine zU rfl rfl rfl ?_|refine zV rfl rfl rfl ?_)
            exact ⟨rfl, ⟨_, rfl, by simp; omega⟩, rfl⟩
      rintro e w7 rfl
      have ho7 := ho.kp h56 (by simp)
      have he7 := he3.kp k46 (by simp)
      have hxi : l[i]? = some (evA l i) := by unfold evA; rw [List.getElem?_eq_getElem hil]; rfl
      have hxj : l[j]? = some (evA l j) := by unfold evA; rw [List.getElem?_eq_getElem hjl]; rfl
      have hsucc := racesTo_succ l R j i
      obtain ⟨eb, eo, rfl, _, hce⟩ := he7.at_ (by rw [evsC_len]; omega)
      have hcell : ∀ W', Kp [] w7 W' → ∀ k, k < l.length → ∀ m v, (evC (evA l k))[m]? = some v → W'.cell? ⟨eb, eo + k * 3 + m, none⟩ = some v := fun W' k' k hk m v hv => by
        obtain ⟨eb', eo', h1, _, h3⟩ := (he7.kp k' (by simp)).at_ (by rw [evsC_len]; omega)
        cases h1
        rw [Nat.add_assoc]
        exact h3 _ _ (evsC_get (x := evA l k) (by unfold evA; rw [List.getElem?_eq_getElem hk]; rfl) m v hv)
      (repeat first|refine zA ?_|refine zB ?_|refine zC ?_|refine zD ?_|refine zE ?_|refine zg ?_|refine zo rfl rfl (by first|exact trivial|(simp only[AllP];omega)|(simp(discharger:=omega)only[AllP,cA,cB];omega)|(simp only[AllP,cC,cD,cE,cF,cG];omega)) ?_|refine zn ?_|refine zb ?_|refine ze rfl ?_|refine zr ?_|refine zk ?_|refine zT rfl rfl rfl ?_|refine zU rfl rfl rfl ?_|refine zV rfl rfl rfl ?_|refine zf rfl ?_|refine zt rfl ?_)
      refine r_seq ?_
      refine r_bool [1, 5, 7, 8, 9, 10] [.slice (some ⟨eb, eo, none⟩) l.length ecap, ptr g.p, I l.length, .slice ay (racesTo l R j i).length cy, I j, I i] 100 (decide (i < j ∧ raceI l R i j = true)) (fun w' => Kp [] w7 w') ?_ ?_
      · refine r_mix (fun w' => Kp [] w7 w') [(0, false), (1, false), (2, false), (3, false), (4, false), (5, false), (6, false), (7, false), (8, false), (9, false), (10, false), (11, false), (12, true), (13, false), (14, false), (15, false), (16, false), (17, false), (18, true), (19, false), (20, false)] follows_mixed (by kernel_rfl) (by kernel_rfl) (by kernel_rfl) ((Sm.drew w7).kp _) ?_
        have kd := (Sm.drew w7).kp []
        generalize ({ w7 with drawn := w7.drawn + 1 } : World) = wd at kd ⊢
        (repeat first|refine xo rfl rfl (by first|exact trivial|(simp only[AllP];omega)|(simp(discharger:=omega)only[AllP,cA,cB];omega)|(simp only[AllP,cC,cD,cE,cF,cG];omega)) ?_|refine xn ?_|refine x_know rfl _ _ (some true) rfl rfl rfl ?_|refine x_know rfl _ _ (some false) rfl rfl rfl ?_|refine x_know rfl _ _ none rfl rfl rfl ?_)
        by_cases hij : i < j
        · refine x_is true rfl 3 true rfl rfl rfl (by simp; omega) ?_
          (repeat first|refine xo rfl rfl (by first|exact trivial|(simp only[AllP];omega)|(simp(discharger:=omega)only[AllP,cA,cB];omega)|(simp only[AllP,cC,cD,cE,cF,cG];omega)) ?_|refine xn ?_|refine x_know rfl _ _ (some true) rfl rfl rfl ?_|refine x_know rfl _ _ (some false) rfl rfl rfl ?_|refine x_know rfl _ _ none rfl rfl rfl ?_)
          refine x_loadA (b := eb) (off := eo + i * 3) (vs := evC (evA l i)) rfl rfl (fun w' h' => hcell w' h' i hil) rfl rfl rfl rfl rfl rfl ?_
          (repeat first|refine xo rfl rfl (by first|exact trivial|(simp only[AllP];omega)|(simp(discharger:=omega)only[AllP,cA,cB];omega)|(simp only[AllP,cC,cD,cE,cF,cG];omega)) ?_|refine xn ?_|refine x_know rfl _ _ (some true) rfl rfl rfl ?_|refine x_know rfl _ _ (some false) rfl rfl rfl ?_|refine x_know rfl _ _ none rfl rfl rfl ?_)
          refine x_loadA (b := eb) (off := eo + j * 3) (vs := evC (evA l j)) rfl rfl (fun w' h' => hcell w' h' j hjl) rfl rfl rfl rfl rfl rfl ?_
          (repeat first|refine xo rfl rfl (by first|exact trivial|(simp only[AllP];omega)|(simp(discharger:=omega)only[AllP,cA,cB];omega)|(simp only[AllP,cC,cD,cE,cF,cG];omega)) ?_|refine xn ?_|refine x_know rfl _ _ (some true) rfl rfl rfl ?_|refine x_know rfl _ _ (some false) rfl rfl rfl ?_|refine x_know rfl _ _ none rfl rfl rfl ?_)
          refine x_act rfl ?_
          refine o_call (conflict20_ret (evA l i) (evA l j)) rfl rfl rfl ?_
          rintro v w8 ⟨rfl, k8⟩
          have kd8 := kd.trans k8
          refine o_nil ⟨.inr kd8, ?_⟩
          (repeat first|refine xo rfl rfl (by first|exact trivial|(simp only[AllP];omega)|(simp(discharger:=omega)only[AllP,cA,cB];omega)|(simp only[AllP,cC,cD,cE,cF,cG];omega)) ?_|refine xn ?_|refine x_know rfl _ _ (some true) rfl rfl rfl ?_|refine x_know rfl _ _ (some false) rfl rfl rfl ?_|refine x_know rfl _ _ none rfl rfl rfl ?_)
          cases hcf : confB (evA l i) (evA l j) with
          | true =>
            (repeat first|refine xo rfl rfl (by first|exact trivial|(simp only[AllP];omega)|(simp(discharger:=omega)only[AllP,cA,cB];omega)|(simp only[AllP,cC,cD,cE,cF,cG];omega)) ?_|refine xn ?_|refine x_know rfl _ _ (some true) rfl rfl rfl ?_|refine x_know rfl _ _ (some false) rfl rfl rfl ?_|refine x_know rfl _ _ none rfl rfl rfl ?_)
            refine x_act rfl ?_
            refine o_call (xBefore_ret (hX _ (k46.trans kd8)) i j) rfl rfl rfl ?_
            rintro v w9 ⟨rfl, rfl⟩
            refine o_nil ⟨.inr kd8, ?_⟩
            (repeat first|refine xo rfl rfl (by first|exact trivial|(simp only[AllP];omega)|(simp(discharger:=omega)only[AllP,cA,cB];omega)|(simp only[AllP,cC,cD,cE,cF,cG];omega)) ?_|refine xn ?_|refine x_know rfl _ _ (some true) rfl rfl rfl ?_|refine x_know rfl _ _ (some false) rfl rfl rfl ?_|refine x_know rfl _ _ none rfl rfl rfl ?_)
            exact ⟨rfl, ⟨_, rfl, by rw [race_conf, hcf]; simp [hij]⟩, kd8⟩
          | false =>
            (repeat first|refine xo rfl rfl (by first|exact trivial|(simp only[AllP];omega)|(simp(discharger:=omega)only[AllP,cA,cB];omega)|(simp only[AllP,cC,cD,cE,cF,cG];omega)) ?_|refine xn ?_|refine x_know rfl _ _ (some true) rfl rfl rfl ?_|refine x_know rfl _ _ (some false) rfl rfl rfl ?_|refine x_know rfl _ _ none rfl rfl rfl ?_)
            refine x_passes rfl rfl rfl (fun _ => kd8) ?_
            (repeat first|refine xo rfl rfl (by first|exact trivial|(simp only[AllP];omega)|(simp(discharger:=omega)only[AllP,cA,cB];omega)|(simp only[AllP,cC,cD,cE,cF,cG];omega)) ?_|refine xn ?_|refine x_know rfl _ _ (some true) rfl rfl rfl ?_|refine x_know rfl _ _ (some false) rfl rfl rfl ?_|refine x_know rfl _ _ none rfl rfl rfl ?_)
            exact ⟨rfl, ⟨_, rfl, by rw [race_conf, hcf]; simp⟩, kd8⟩
        · refine x_is false rfl 3 true rfl rfl rfl (by simp; omega) ?_
          (repeat first|refine xo rfl rfl (by first|exact trivial|(simp only[AllP];omega)|(simp(discharger:=omega)only[AllP,cA,cB];omega)|(simp only[AllP,cC,cD,cE,cF,cG];omega)) ?_|refine xn ?_|refine x_know rfl _ _ (some true) rfl rfl rfl ?_|refine x_know rfl _ _ (some false) rfl rfl rfl ?_|refine x_know rfl _ _ none rfl rfl rfl ?_)
          refine x_passes rfl rfl rfl (fun _ => kd) ?_
          (repeat first|refine xo rfl rfl (by first|exact trivial|(simp only[AllP];omega)|(simp(discharger:=omega)only[AllP,cA,cB];omega)|(simp only[AllP,cC,cD,cE,cF,cG];omega)) ?_|refine xn ?_|refine x_know rfl _ _ (some true) rfl rfl rfl ?_|refine x_know rfl _ _ (some false) rfl rfl rfl ?_|refine x_know rfl _ _ none rfl rfl rfl ?_)
          refine x_passes rfl rfl rfl (fun _ => kd) ?_
          (repeat first|refine xo rfl rfl (by first|exact trivial|(simp only[AllP];omega)|(simp(discharger:=omega)only[AllP,cA,cB];omega)|(simp only[AllP,cC,cD,cE,cF,cG];omega)) ?_|refine xn ?_|refine x_know rfl _ _ (some true) rfl rfl rfl ?_|refine x_know rfl _ _ (some false) rfl rfl rfl ?_|refine x_know rfl _ _ none rfl rfl rfl ?_)
          exact ⟨rfl, ⟨_, rfl, by simp; omega⟩, kd⟩
      intro e w8 k8
      have ho8 := ho7.kp k8 (by simp)
      have k48 := k46.trans k8
      have hsm := racesTo_small (R := R) i hl2 hjl
      by_cases hc3 : i < j ∧ raceI l R i j = true
      · rw [if_pos hc3] at hsucc
        refine r_yes rfl (decide_eq_true hc3) ?_
        (repeat first|refine zA ?_|refine zB ?_|refine zC ?_|refine zD ?_|refine zE ?_|refine zg ?_|refine zo rfl rfl (by first|exact trivial|(simp only[AllP];omega)|(simp(discharger:=omega)only[AllP,cA,cB];omega)|(simp only[AllP,cC,cD,cE,cF,cG];omega)) ?_|refine zn ?_|refine zb ?_|refine ze rfl ?_|refine zr ?_|refine zk ?_|refine zT rfl rfl rfl ?_|refine zU rfl rfl rfl ?_|refine zV rfl rfl rfl ?_|refine zf rfl ?_|refine zt rfl ?_)
        refine o_loadc (b := eb) (off := eo + j * 3 + 2) (v := I (evA l j).o) rfl (hcell _ k8 j hjl 2 _ rfl) rfl rfl rfl rfl ?_
        (repeat first|refine zA ?_|refine zB ?_|refine zC ?_|refine zD ?_|refine zE ?_|refine zg ?_|refine zo rfl rfl (by first|exact trivial|(simp only[AllP];omega)|(simp(discharger:=omega)only[AllP,cA,cB];omega)|(simp only[AllP,cC,cD,cE,cF,cG];omega)) ?_|refine zn ?_|refine zb ?_|refine ze rfl ?_|refine zr ?_|refine zk ?_|refine zT rfl rfl rfl ?_|refine zU rfl rfl rfl ?_|refine zV rfl rfl rfl ?_|refine zf rfl ?_|refine zt rfl ?_)
        refine o_build (pairC ((evA l j).o, i, j)) rfl rfl rfl rfl rfl rfl rfl ?_
        refine o_buildSliceN (pairC ((evA l j).o, i, j)) rfl rfl rfl (by kernel_rfl) rfl rfl rfl rfl ?_
        intro b9 w9 hb9 hu9
        have k9 : Kp [] w8 w9 := hu9.kp [] (.inr (by omega))
        refine o_append (pairC ((evA l j).o, i, j)) rfl rfl (ho8.kp k9 (by simp)) (fun m v hv => by rw [addr_lit, Nat.zero_add]; exact hu9.blk.cell hv) rfl rfl rfl (by omega) rfl (by omega) (by simp [Value.oneCell']) (by simp only [maxLen]; omega) (by omega) rfl rfl ?_
        intro ad' cap' w10 ho10 k10 hn10
        have z8 := k48.size
        have z9 := k9.size
        (repeat first|refine zA ?_|refine zB ?_|refine zC ?_|refine zD ?_|refine zE ?_|refine zg ?_|refine zo rfl rfl (by first|exact trivial|(simp only[AllP];omega)|(simp(discharger:=omega)only[AllP,cA,cB];omega)|(simp only[AllP,cC,cD,cE,cF,cG];omega)) ?_|refine zn ?_|refine zb ?_|refine ze rfl ?_|refine zr ?_|refine zk ?_|refine zT rfl rfl rfl ?_|refine zU rfl rfl rfl ?_|refine zV rfl rfl rfl ?_|refine zf rfl ?_|refine zt rfl ?_)
        refine ⟨(i + 1, ad', cap'), by dsimp only; rw [hsucc, List.length_append]; rfl, ⟨by dsimp only; omega, ?_, (k48.trans k9).since k10 hn, fun b hb => ?_⟩, by dsimp only; omega⟩
        · dsimp only
          rw [hsucc, List.length_append, prsC_snoc]; exact ho10
        · rcases hn10 b hb with q | q
          · exact hn b q
          · omega
      · rw [if_neg hc3, List.append_nil] at hsucc
        refine r_no rfl (decide_eq_false hc3) ?_
        (repeat first|refine zA ?_|refine zB ?_|refine zC ?_|refine zD ?_|refine zE ?_|refine zg ?_|refine zo rfl rfl (by first|exact trivial|(simp only[AllP];omega)|(simp(discharger:=omega)only[AllP,cA,cB];omega)|(simp only[AllP,cC,cD,cE,cF,cG];omega)) ?_|refine zn ?_|refine zb ?_|refine ze rfl ?_|refine zr ?_|refine zk ?_|refine zT rfl rfl rfl ?_|refine zU rfl rfl rfl ?_|refine zV rfl rfl rfl ?_|refine zf rfl ?_|refine zt rfl ?_)
        exact ⟨(i + 1, ay, cy), by dsimp only; rw [hsucc]; rfl, ⟨by dsimp only; omega, by dsimp only; rw [hsucc]; exact ho8, k48, hn⟩, by dsimp only; omega⟩
    · have e1 : racesTo l R j i = racesN l R (j + 1) := by unfold racesTo; rw [Nat.min_eq_right (by omega), racesN_succ]
      rw [e1] at ho ⊢
      (repeat first|refine zA ?_|refine zB ?_|refine zC ?_|refine zD ?_|refine zE ?_|refine zg ?_|refine zo rfl rfl (by first|exact trivial|(simp only[AllP];omega)|(simp(discharger:=omega)only[AllP,cA,cB];omega)|(simp only[AllP,cC,cD,cE,cF,cG];omega)) ?_|refine zn ?_|refine zb ?_|refine ze rfl ?_|refine zr ?_|refine zk ?_|refine zT rfl rfl rfl ?_|refine zU rfl rfl rfl ?_|refine zV rfl rfl rfl ?_|refine zf rfl ?_|refine zt rfl ?_)
      exact ⟨(j + 1, ay, cy), rfl, ⟨by dsimp only; omega, ho, kW, hn⟩, by dsimp only; omega⟩
  have hjl : j = l.length := by omega
  subst hjl
  have hsm := racesN_small R hl2
  have hfs : (firstV l R).isSome = decide (0 < ((racesN l R l.length).length : Int)) := by
    cases hrs : racesN l R l.length with
    | nil => rw [first_none hrs]; rfl
    | cons r rest =>
      obtain ⟨y, hy, _⟩ := first_some hrs
      rw [hy]; simp
  have hfirst : ∀ (i : Nat) x, (racesN l R l.length)[i]? = some x → ∃ r0 y, (racesN l R l.length)[0]? = some r0 ∧ firstV l R = some y ∧ y.2.2 = r0.2.2 ∧ (x.2.2 = r0.2.2 → x.2.1 ≤ y.2.1) := fun i x hx => by
    cases hrs : racesN l R l.length with
    | nil => rw [hrs] at hx; simp at hx
    | cons r rest =>
      obtain ⟨y, hy, h1, h2⟩ := first_some hrs
      exact ⟨r, y, rfl, hy, h1, h2 x (by rw [← hrs]; exact List.mem_of_getElem? hx)⟩
  have hflag : ∀ x ∈ racesN l R l.length, (∃ z ∈ flagsV l R (l.length : Nat), z.1 = x.1) ∧ ∀ z ∈ flagsV l R (l.length : Nat), z.1 = x.1 → z.2 ≤ (x.2.2 : Int) := fun x hx => by
    obtain ⟨z, hz, h1, h2⟩ := race_flagged (n := l.length) rfl hx
    refine ⟨⟨z, hz, h1⟩, fun z' hz' h1' => ?_⟩
    have : z' = z := by
      have hp := flagsV_sorted (E := l) (R := R) (l.length : Nat)
      exact flag_uniq hp hz' hz (by omega)
    rw [this]; exact h2
  have hflen : (flagsV l R (l.length : Nat)).length ≤ 4194304 := by
    have h1 := (flgGo_perm (l.length : Nat) (racesN l R l.length) [] [] (.refl _)).length_eq
    have h2 := flgGo_le (l.length : Nat) (racesN l R l.length) []
    unfold flagsV
    rw [← h1]; simp at h2; omega
  (repeat first|refine zA ?_|refine zB ?_|refine zC ?_|refine zD ?_|refine zE ?_|refine zg ?_|refine zo rfl rfl (by first|exact trivial|(simp only[AllP];omega)|(simp(discharger:=omega)only[AllP,cA,cB];omega)|(simp only[AllP,cC,cD,cE,cF,cG];omega)) ?_|refine zn ?_|refine zb ?_|refine ze rfl ?_|refine zr ?_|refine zk ?_|refine zT rfl rfl rfl ?_|refine zU rfl rfl rfl ?_|refine zV rfl rfl rfl ?_|refine zf rfl ?_|refine zt rfl ?_)
  refine o_call (xFirst_ret (hX _ kW)) rfl rfl rfl ?_
  rintro v w5 ⟨rfl, k5⟩
  rw [hfs]
  (repeat first|refine zA ?_|refine zB ?_|refine zC ?_|refine zD ?_|refine zE ?_|refine zg ?_|refine zo rfl rfl (by first|exact trivial|(simp only[AllP];omega)|(simp(discharger:=omega)only[AllP,cA,cB];omega)|(simp only[AllP,cC,cD,cE,cF,cG];omega)) ?_|refine zn ?_|refine zb ?_|refine ze rfl ?_|refine zr ?_|refine zk ?_|refine zT rfl rfl rfl ?_|refine zU rfl rfl rfl ?_|refine zV rfl rfl rfl ?_|refine zf rfl ?_|refine zt rfl ?_)
  refine o_alloc rfl rfl rfl rfl ?_
  intro bf w6 hbf hu6
  refine o_storeA (cs := pairC ((firstV l R).getD (0, 0, 0))) rfl hu6.blk (Nat.le_refl _) rfl (by simp [Value.oneCell']) rfl rfl rfl rfl ?_
  intro w7 hu7
  have k67 : Kp [] w5 w7 := (hu6.kp [] (.inr (by omega))).since (hu7.kp [bf] (.inl (by simp))) (by simp; omega)
  have hF7 : Blk w7 bf (pairC ((firstV l R).getD (0, 0, 0))) 53 := hu7.blk
  have k7W := k5.trans k67
  (repeat first|refine zA ?_|refine zB ?_|refine zC ?_|refine zD ?_|refine zE ?_|refine zg ?_|refine zo rfl rfl (by first|exact trivial|(simp only[AllP];omega)|(simp(discharger:=omega)only[AllP,cA,cB];omega)|(simp only[AllP,cC,cD,cE,cF,cG];omega)) ?_|refine zn ?_|refine zb ?_|refine ze rfl ?_|refine zr ?_|refine zk ?_|refine zT rfl rfl rfl ?_|refine zU rfl rfl rfl ?_|refine zV rfl rfl rfl ?_|refine zf rfl ?_|refine zt rfl ?_)
  refine o_call (xAll_ret (hX _ (kW.trans k7W))) rfl rfl rfl ?_
  rintro v w8 ⟨bx8, hseq, k8', _⟩
  have hq := hseq.is
  obtain ⟨fi, lb, rfl, _⟩ := hq
  (repeat first|refine zA ?_|refine zB ?_|refine zC ?_|refine zD ?_|refine zE ?_|refine zg ?_|refine zo rfl rfl (by first|exact trivial|(simp only[AllP];omega)|(simp(discharger:=omega)only[AllP,cA,cB];omega)|(simp only[AllP,cC,cD,cE,cF,cG];omega)) ?_|refine zn ?_|refine zb ?_|refine ze rfl ?_|refine zr ?_|refine zk ?_|refine zT rfl rfl rfl ?_|refine zU rfl rfl rfl ?_|refine zV rfl rfl rfl ?_|refine zf rfl ?_|refine zt rfl ?_)
  refine o_call (gone20_ret hseq hsm (-1)) rfl rfl rfl ?_
  rintro v w9 ⟨ad9, cap9, rfl, ho9, k9', _⟩
  rw [gonP_all] at ho9 ⊢
  have k79 := k8'.trans k9'
  have ho9' := ho.kp (k7W.trans k79) (by simp)
  (repeat first|refine zA ?_|refine zB ?_|refine zC ?_|refine zD ?_|refine zE ?_|refine zg ?_|refine zo rfl rfl (by first|exact trivial|(simp only[AllP];omega)|(simp(discharger:=omega)only[AllP,cA,cB];omega)|(simp only[AllP,cC,cD,cE,cF,cG];omega)) ?_|refine zn ?_|refine zb ?_|refine ze rfl ?_|refine zr ?_|refine zk ?_|refine zT rfl rfl rfl ?_|refine zU rfl rfl rfl ?_|refine zV rfl rfl rfl ?_|refine zf rfl ?_|refine zt rfl ?_)
  refine o_call (samePairs_yes (l := racesN l R l.length) ho9.readN ho9'.readN rfl rfl (by omega)) rfl rfl rfl ?_
  rintro v w10 ⟨rfl, s10⟩
  have k710 := k79.trans (s10.kp [])
  have ho10 := ho9'.kp (s10.kp []) (by simp)
  have hF10 := k710.blk (by simp) hF7
  have k10 := kW.trans (k7W.trans k710)
  clear ho9 ho9' hF7 hseq hu6 hu7
  (repeat first|refine zA ?_|refine zB ?_|refine zC ?_|refine zD ?_|refine zE ?_|refine zg ?_|refine zo rfl rfl (by first|exact trivial|(simp only[AllP];omega)|(simp(discharger:=omega)only[AllP,cA,cB];omega)|(simp only[AllP,cC,cD,cE,cF,cG];omega)) ?_|refine zn ?_|refine zb ?_|refine ze rfl ?_|refine zr ?_|refine zk ?_|refine zT rfl rfl rfl ?_|refine zU rfl rfl rfl ?_|refine zV rfl rfl rfl ?_|refine zf rfl ?_|refine zt rfl ?_)
  refine r_no rfl (by simp) ?_
  (repeat first|refine zA ?_|refine zB ?_|refine zC ?_|refine zD ?_|refine zE ?_|refine zg ?_|refine zo rfl rfl (by first|exact trivial|(simp only[AllP];omega)|(simp(discharger:=omega)only[AllP,cA,cB];omega)|(simp only[AllP,cC,cD,cE,cF,cG];omega)) ?_|refine zn ?_|refine zb ?_|refine ze rfl ?_|refine zr ?_|refine zk ?_|refine zT rfl rfl rfl ?_|refine zU rfl rfl rfl ?_|refine zV rfl rfl rfl ?_|refine zf rfl ?_|refine zt rfl ?_)
  refine o_call (xFlags_ret sortF (hX _ k10) hvar (l.length : Nat)) rfl rfl rfl ?_
  rintro v w11 ⟨adf, capf, rfl, hof, k11, _⟩
  have ho11 := (ho10.kp k11 (by simp)).readN
  have hf11 := hof.readN
  have hF11 := k11.blk (by simp) hF10
  have k011 := k10.trans k11
  clear hof ho10 hF10
  generalize hL : racesN l R l.length = L at *
  generalize hFl : flagsV l R (l.length : Nat) = fl at *
  (repeat first|refine zA ?_|refine zB ?_|refine zC ?_|refine zD ?_|refine zE ?_|refine zg ?_|refine zo rfl rfl (by first|exact trivial|(simp only[AllP];omega)|(simp(discharger:=omega)only[AllP,cA,cB];omega)|(simp only[AllP,cC,cD,cE,cF,cG];omega)) ?_|refine zn ?_|refine zb ?_|refine ze rfl ?_|refine zr ?_|refine zk ?_|refine zT rfl rfl rfl ?_|refine zU rfl rfl rfl ?_|refine zV rfl rfl rfl ?_|refine zf rfl ?_|refine zt rfl ?_)
  refine r_loop (α := Nat) [1, 5, 7, 8, 11, 13, 14] (fun i => [.slice ead l.length ecap, ptr g.p, I l.length, .slice ax L.length cx, ptr bf, .slice adf fl.length capf, I i]) (fun i W => i ≤ L.length ∧ Kp [] w11 W) (fun i => L.length - i) 0 rfl ⟨by omega, Kp.refl _ _⟩ ?_
  rintro i e W2 ⟨hi, kW2⟩
  (repeat first|refine zA ?_|refine zB ?_|refine zC ?_|refine zD ?_|refine zE ?_|refine zg ?_|refine zo rfl rfl (by first|exact trivial|(simp only[AllP];omega)|(simp(discharger:=omega)only[AllP,cA,cB];omega)|(simp only[AllP,cC,cD,cE,cF,cG];omega)) ?_|refine zn ?_|refine zb ?_|refine ze rfl ?_|refine zr ?_|refine zk ?_|refine zT rfl rfl rfl ?_|refine zU rfl rfl rfl ?_|refine zV rfl rfl rfl ?_|refine zf rfl ?_|refine zt rfl ?_)
  refine r_if rfl (fun hc => ?_) (fun hc => ?_)
  · have hlt : i < L.length := by omega
    obtain ⟨x, hx⟩ : ∃ x, L[i]? = some x := ⟨_, List.getElem?_eq_getElem hlt⟩
    obtain ⟨r0, y, hr0, hy, hy2, hyx⟩ := hfirst i x hx
    obtain ⟨hfz, hfle⟩ := hflag x (List.mem_of_getElem? hx)
    rw [hy] at hF11
    simp only [Option.getD_some] at hF11
    obtain ⟨b3, o3, rfl, _, hcell⟩ := (ho11.kp kW2 (by simp)).at_ (by rw [prsC_len]; omega)
    (repeat first|refine zA ?_|refine zB ?_|refine zC ?_|refine zD ?_|refine zE ?_|refine zg ?_|refine zo rfl rfl (by first|exact trivial|(simp only[AllP];omega)|(simp(discharger:=omega)only[AllP,cA,cB];omega)|(simp only[AllP,cC,cD,cE,cF,cG];omega)) ?_|refine zn ?_|refine zb ?_|refine ze rfl ?_|refine zr ?_|refine zk ?_|refine zT rfl rfl rfl ?_|refine zU rfl rfl rfl ?_|refine zV rfl rfl rfl ?_|refine zf rfl ?_|refine zt rfl ?_)
    refine o_loadA (b := b3) (off := o3 + i * 3) (vs := pairC x) rfl (fun j v hv => by rw [Nat.add_assoc]; exact hcell _ _ (prsC_get hx hv)) rfl rfl rfl rfl rfl rfl ?_
    (repeat first|refine zA ?_|refine zB ?_|refine zC ?_|refine zD ?_|refine zE ?_|refine zg ?_|refine zo rfl rfl (by first|exact trivial|(simp only[AllP];omega)|(simp(discharger:=omega)only[AllP,cA,cB];omega)|(simp only[AllP,cC,cD,cE,cF,cG];omega)) ?_|refine zn ?_|refine zb ?_|refine ze rfl ?_|refine zr ?_|refine zk ?_|refine zT rfl rfl rfl ?_|refine zU rfl rfl rfl ?_|refine zV rfl rfl rfl ?_|refine zf rfl ?_|refine zt rfl ?_)
    refine o_alloc rfl rfl rfl rfl ?_
    intro br w12 hbr hu12
    refine o_storeA (cs := pairC x) rfl hu12.blk (Nat.le_refl _) rfl (by simp [Value.oneCell']) rfl rfl rfl rfl ?_
    intro w13 hu13
    have k13 : Kp [] W2 w13 := (hu12.kp [] (.inr (by omega))).since (hu13.kp [br] (.inl (by simp))) (by simp; omega)
    have hX13 : Blk w13 br (pairC x) 53 := hu13.blk
    have kk := kW2.trans k13
    have hr13 := ho11.kp kk (by simp)
    have hf13 := hf11.kp kk (by simp)
    have hF13 := kk.blk (by simp) hF11
    have h0cell : ∀ W', Kp [] w13 W' → W'.cell? ⟨b3, o3 + 0 * 3 + 2, none⟩ = some (I (r0.2.2 : Int)) := fun W' k' => by
      obtain ⟨b3', o3', h1, _, h3⟩ := (hr13.kp k' (by simp)).at_ (by rw [prsC_len]; omega)
      cases h1
      rw [Nat.add_assoc]
      exact h3 _ _ (prsC_get hr0 (j := 2) rfl)
    (repeat first|refine zA ?_|refine zB ?_|refine zC ?_|refine zD ?_|refine zE ?_|refine zg ?_|refine zo rfl rfl (by first|exact trivial|(simp only[AllP];omega)|(simp(discharger:=omega)only[AllP,cA,cB];omega)|(simp only[AllP,cC,cD,cE,cF,cG];omega)) ?_|refine zn ?_|refine zb ?_|refine ze rfl ?_|refine zr ?_|refine zk ?_|refine zT rfl rfl rfl ?_|refine zU rfl rfl rfl ?_|refine zV rfl rfl rfl ?_|refine zf rfl ?_|refine zt rfl ?_)
    refine r_seq ?_
    refine r_bool [1, 5, 7, 8, 11, 13, 14] [.slice ead l.length ecap, ptr g.p, I l.length, .slice (some ⟨b3, o3, none⟩) L.length cx, ptr bf, .slice adf fl.length capf, I i] 171 false (fun w' => Kp [] w13 w') ?_ ?_
    · refine r_mix (fun w' => Kp [] w13 w') [(0, false), (1, false), (2, false), (3, false), (4, false), (5, false), (6, false), (7, false), (8, false), (9, false), (10, false), (11, false), (12, false), (13, false), (14, false), (15, false), (16, false), (17, false), (18, false), (19, false), (20, false), (21, false), (22, false), (23, false), (24, false), (25, false), (26, true), (27, false), (28, false)] follows_mixed (by kernel_rfl) (by kernel_rfl) (by kernel_rfl) ((Sm.drew w13).kp _) ?_
      have kd := (Sm.drew w13).kp []
      generalize ({ w13 with drawn := w13.drawn + 1 } : World) = wd at kd ⊢
      (repeat first|refine xo rfl rfl (by first|exact trivial|(simp only[AllP];omega)|(simp(discharger:=omega)only[AllP,cA,cB];omega)|(simp only[AllP,cC,cD,cE,cF,cG];omega)) ?_|refine xn ?_|refine x_know rfl _ _ (some true) rfl rfl rfl ?_|refine x_know rfl _ _ (some false) rfl rfl rfl ?_|refine x_know rfl _ _ none rfl rfl rfl ?_)
      refine x_load (v := I (x.2.2 : Int)) rfl rfl (fun w' h' => (h'.blk (by simp) hX13).cell rfl) rfl rfl rfl rfl ?_
      (repeat first|refine xo rfl rfl (by first|exact trivial|(simp only[AllP];omega)|(simp(discharger:=omega)only[AllP,cA,cB];omega)|(simp only[AllP,cC,cD,cE,cF,cG];omega)) ?_|refine xn ?_|refine x_know rfl _ _ (some true) rfl rfl rfl ?_|refine x_know rfl _ _ (some false) rfl rfl rfl ?_|refine x_know rfl _ _ none rfl rfl rfl ?_)
      refine x_load (v := I (r0.2.2 : Int)) rfl rfl (fun w' h' => h0cell w' h') rfl rfl rfl rfl ?_
      (repeat first|refine xo rfl rfl (by first|exact trivial|(simp only[AllP];omega)|(simp(discharger:=omega)only[AllP,cA,cB];omega)|(simp only[AllP,cC,cD,cE,cF,cG];omega)) ?_|refine xn ?_|refine x_know rfl _ _ (some true) rfl rfl rfl ?_|refine x_know rfl _ _ (some false) rfl rfl rfl ?_|refine x_know rfl _ _ none rfl rfl rfl ?_)
      by_cases hse : x.2.2 = r0.2.2
      · refine x_is true rfl 7 true rfl rfl rfl (by simp; omega) ?_
        (repeat first|refine xo rfl rfl (by first|exact trivial|(simp only[AllP];omega)|(simp(discharger:=omega)only[AllP,cA,cB];omega)|(simp only[AllP,cC,cD,cE,cF,cG];omega)) ?_|refine xn ?_|refine x_know rfl _ _ (some true) rfl rfl rfl ?_|refine x_know rfl _ _ (some false) rfl rfl rfl ?_|refine x_know rfl _ _ none rfl rfl rfl ?_)
        refine x_load (v := I (x.2.1 : Int)) rfl rfl (fun w' h' => (h'.blk (by simp) hX13).cell rfl) rfl rfl rfl rfl ?_
        (repeat first|refine xo rfl rfl (by first|exact trivial|(simp only[AllP];omega)|(simp(discharger:=omega)only[AllP,cA,cB];omega)|(simp only[AllP,cC,cD,cE,cF,cG];omega)) ?_|refine xn ?_|refine x_know rfl _ _ (some true) rfl rfl rfl ?_|refine x_know rfl _ _ (some false) rfl rfl rfl ?_|refine x_know rfl _ _ none rfl rfl rfl ?_)
        refine x_load (v := I (y.2.1 : Int)) rfl rfl (fun w' h' => (h'.blk (by simp) hF13).cell rfl) rfl rfl rfl rfl ?_
        (repeat first|refine xo rfl rfl (by first|exact trivial|(simp only[AllP];omega)|(simp(discharger:=omega)only[AllP,cA,cB];omega)|(simp only[AllP,cC,cD,cE,cF,cG];omega)) ?_|refine xn ?_|refine x_know rfl _ _ (some true) rfl rfl rfl ?_|refine x_know rfl _ _ (some false) rfl rfl rfl ?_|refine x_know rfl _ _ none rfl rfl rfl ?_)
        have hyx' := hyx hse
        refine x_is false rfl 14 false rfl rfl rfl (by simp; omega) ?_
        (repeat first|refine xo rfl rfl (by first|exact trivial|(simp only[AllP];omega)|(simp(discharger:=omega)only[AllP,cA,cB];omega)|(simp only[AllP,cC,cD,cE,cF,cG];omega)) ?_|refine xn ?_|refine x_know rfl _ _ (some true) rfl rfl rfl ?_|refine x_know rfl _ _ (some false) rfl rfl rfl ?_|refine x_know rfl _ _ none rfl rfl rfl ?_)
        refine x_load (v := I (y.2.2 : Int)) rfl rfl (fun w' h' => (h'.blk (by simp) hF13).cell rfl) rfl rfl rfl rfl ?_
        (repeat first|refine xo rfl rfl (by first|exact trivial|(simp only[AllP];omega)|(simp(discharger:=omega)only[AllP,cA,cB];omega)|(simp only[AllP,cC,cD,cE,cF,cG];omega)) ?_|refine xn ?_|refine x_know rfl _ _ (some true) rfl rfl rfl ?_|refine x_know rfl _ _ (some false) rfl rfl rfl ?_|refine x_know rfl _ _ none rfl rfl rfl ?_)
        refine x_load (v := I (r0.2.2 : Int)) rfl rfl (fun w' h' => h0cell w' h') rfl rfl rfl rfl ?_
        (repeat first|refine xo rfl rfl (by first|exact trivial|(simp only[AllP];omega)|(simp(discharger:=omega)only[AllP,cA,cB];omega)|(simp only[AllP,cC,cD,cE,cF,cG];omega)) ?_|refine xn ?_|refine x_know rfl _ _ (some true) rfl rfl rfl ?_|refine x_know rfl _ _ (some false) rfl rfl rfl ?_|refine x_know rfl _ _ none rfl rfl rfl ?_)
        refine x_is false rfl 23 false rfl rfl rfl (by simp; omega) ?_
        (repeat first|refine xo rfl rfl (by first|exact trivial|(simp only[AllP];omega)|(simp(discharger:=omega)only[AllP,cA,cB];omega)|(simp only[AllP,cC,cD,cE,cF,cG];omega)) ?_|refine xn ?_|refine x_know rfl _ _ (some true) rfl rfl rfl ?_|refine x_know rfl _ _ (some false) rfl rfl rfl ?_|refine x_know rfl _ _ none rfl rfl rfl ?_)
        refine x_loadA (vs := pairC x) rfl rfl (fun w' h' j v hv => by rw [Nat.zero_add]; exact (h'.blk (by simp) hX13).cell hv) rfl rfl rfl rfl rfl rfl ?_
        (repeat first|refine xo rfl rfl (by first|exact trivial|(simp only[AllP];omega)|(simp(discharger:=omega)only[AllP,cA,cB];omega)|(simp only[AllP,cC,cD,cE,cF,cG];omega)) ?_|refine xn ?_|refine x_know rfl _ _ (some true) rfl rfl rfl ?_|refine x_know rfl _ _ (some false) rfl rfl rfl ?_|refine x_know rfl _ _ none rfl rfl rfl ?_)
        refine x_act rfl ?_
        refine o_call (flagged20_yes (l := fl) (r := x) (hf13.kp kd (by simp)) (by omega) hfz hfle) rfl rfl rfl ?_
        rintro v w15 ⟨rfl, k15⟩
        refine o_nil ⟨.inr (kd.trans k15), ?_⟩
        (repeat first|refine xo rfl rfl (by first|exact trivial|(simp only[AllP];omega)|(simp(discharger:=omega)only[AllP,cA,cB];omega)|(simp only[AllP,cC,cD,cE,cF,cG];omega)) ?_|refine xn ?_|refine x_know rfl _ _ (some true) rfl rfl rfl ?_|refine x_know rfl _ _ (some false) rfl rfl rfl ?_|refine x_know rfl _ _ none rfl rfl rfl ?_)
        exact ⟨rfl, ⟨_, rfl, by simp⟩, kd.trans k15⟩
      · refine x_is false rfl 7 true rfl rfl rfl (by simp; omega) ?_
        (repeat first|refine xo rfl rfl (by first|exact trivial|(simp only[AllP];omega)|(simp(discharger:=omega)only[AllP,cA,cB];omega)|(simp only[AllP,cC,cD,cE,cF,cG];omega)) ?_|refine xn ?_|refine x_know rfl _ _ (some true) rfl rfl rfl ?_|refine x_know rfl _ _ (some false) rfl rfl rfl ?_|refine x_know rfl _ _ none rfl rfl rfl ?_)
        refine x_load (v := I (y.2.2 : Int)) rfl rfl (fun w' h' => (h'.blk (by simp) hF13).cell rfl) rfl rfl rfl rfl ?_
        (repeat first|refine xo rfl rfl (by first|exact trivial|(simp only[AllP];omega)|(simp(discharger:=omega)only[AllP,cA,cB];omega)|(simp only[AllP,cC,cD,cE,cF,cG];omega)) ?_|refine xn ?_|refine x_know rfl _ _ (some true) rfl rfl rfl ?_|refine x_know rfl _ _ (some false) rfl rfl rfl ?_|refine x_know rfl _ _ none rfl rfl rfl ?_)
        refine x_load (v := I (r0.2.2 : Int)) rfl rfl (fun w' h' => h0cell w' h') rfl rfl rfl rfl ?_
        (repeat first|refine xo rfl rfl (by first|exact trivial|(simp only[AllP];omega)|(simp(discharger:=omega)only[AllP,cA,cB];omega)|(simp only[AllP,cC,cD,cE,cF,cG];omega)) ?_|refine xn ?_|refine x_know rfl _ _ (some true) rfl rfl rfl ?_|refine x_know rfl _ _ (some false) rfl rfl rfl ?_|refine x_know rfl _ _ none rfl rfl rfl ?_)
        refine x_is false rfl 23 false rfl rfl rfl (by simp; omega) ?_
        (repeat first|refine xo rfl rfl (by first|exact trivial|(simp only[AllP];omega)|(simp(discharger:=omega)only[AllP,cA,cB];omega)|(simp only[AllP,cC,cD,cE,cF,cG];omega)) ?_|refine xn ?_|refine x_know rfl _ _ (some true) rfl rfl rfl ?_|refine x_know rfl _ _ (some false) rfl rfl rfl ?_|refine x_know rfl _ _ none rfl rfl rfl ?_)
        refine x_loadA (vs := pairC x) rfl rfl (fun w' h' j v hv => by rw [Nat.zero_add]; exact (h'.blk (by simp) hX13).cell hv) rfl rfl rfl rfl rfl rfl ?_
        (repeat first|refine xo rfl rfl (by first|exact trivial|(simp only[AllP];omega)|(simp(discharger:=omega)only[AllP,cA,cB];omega)|(simp only[AllP,cC,cD,cE,cF,cG];omega)) ?_|refine xn ?_|refine x_know rfl _ _ (some true) rfl rfl rfl ?_|refine x_know rfl _ _ (some false) rfl rfl rfl ?_|refine x_know rfl _ _ none rfl rfl rfl ?_)
        refine x_act rfl ?_
        refine o_call (flagged20_yes (l := fl) (r := x) (hf13.kp kd (by simp)) (by omega) hfz hfle) rfl rfl rfl ?_
        rintro v w15 ⟨rfl, k15⟩
        refine o_nil ⟨.inr (kd.trans k15), ?_⟩
        (repeat first|refine xo rfl rfl (by first|exact trivial|(simp only[AllP];omega)|(simp(discharger:=omega)only[AllP,cA,cB];omega)|(simp only[AllP,cC,cD,cE,cF,cG];omega)) ?_|refine xn ?_|refine x_know rfl _ _ (some true) rfl rfl rfl ?_|refine x_know rfl _ _ (some false) rfl rfl rfl ?_|refine x_know rfl _ _ none rfl rfl rfl ?_)
        exact ⟨rfl, ⟨_, rfl, by simp⟩, kd.trans k15⟩
    intro e w14 k14
    refine r_cond_f rfl ?_
    (repeat first|refine zA ?_|refine zB ?_|refine zC ?_|refine zD ?_|refine zE ?_|refine zg ?_|refine zo rfl rfl (by first|exact trivial|(simp only[AllP];omega)|(simp(discharger:=omega)only[AllP,cA,cB];omega)|(simp only[AllP,cC,cD,cE,cF,cG];omega)) ?_|refine zn ?_|refine zb ?_|refine ze rfl ?_|refine zr ?_|refine zk ?_|refine zT rfl rfl rfl ?_|refine zU rfl rfl rfl ?_|refine zV rfl rfl rfl ?_|refine zf rfl ?_|refine zt rfl ?_)
    exact ⟨i + 1, rfl, ⟨by omega, kk.trans k14⟩, by omega⟩
  (repeat first|refine zA ?_|refine zB ?_|refine zC ?_|refine zD ?_|refine zE ?_|refine zg ?_|refine zo rfl rfl (by first|exact trivial|(simp only[AllP];omega)|(simp(discharger:=omega)only[AllP,cA,cB];omega)|(simp only[AllP,cC,cD,cE,cF,cG];omega)) ?_|refine zn ?_|refine zb ?_|refine ze rfl ?_|refine zr ?_|refine zk ?_|refine zT rfl rfl rfl ?_|refine zU rfl rfl rfl ?_|refine zV rfl rfl rfl ?_|refine zf rfl ?_|refine zt rfl ?_)
  refine r_loop (α := Nat) [5, 13, 16] (fun i => [ptr g.p, .slice adf fl.length capf, I i]) (fun i W => i ≤ fl.length ∧ Kp [] w11 W) (fun i => fl.length - i) 0 rfl ⟨by omega, kW2⟩ ?_
  rintro i e W3 ⟨hi, kW3⟩
  (repeat first|refine zA ?_|refine zB ?_|refine zC ?_|refine zD ?_|refine zE ?_|refine zg ?_|refine zo rfl rfl (by first|exact trivial|(simp only[AllP];omega)|(simp(discharger:=omega)only[AllP,cA,cB];omega)|(simp only[AllP,cC,cD,cE,cF,cG];omega)) ?_|refine zn ?_|refine zb ?_|refine ze rfl ?_|refine zr ?_|refine zk ?_|refine zT rfl rfl rfl ?_|refine zU rfl rfl rfl ?_|refine zV rfl rfl rfl ?_|refine zf rfl ?_|refine zt rfl ?_)
  refine r_if rfl (fun hc => ?_) (fun hc => ?_)
  · have hlt : i < fl.length := by omega
    obtain ⟨z, hz⟩ : ∃ z, fl[i]? = some z := ⟨_, List.getElem?_eq_getElem hlt⟩
    obtain ⟨y, hy, hy1, hy2⟩ := flag_pair (E := l) (R := R) (n := l.length) (z := z) rfl (by rw [hFl]; exact List.mem_of_getElem? hz)
    obtain ⟨b3, o3, rfl, _, hcell⟩ := (hf11.kp kW3 (by simp)).at_ (by rw [flgsC_len]; omega)
    (repeat first|refine zA ?_|refine zB ?_|refine zC ?_|refine zD ?_|refine zE ?_|refine zg ?_|refine zo rfl rfl (by first|exact trivial|(simp only[AllP];omega)|(simp(discharger:=omega)only[AllP,cA,cB];omega)|(simp only[AllP,cC,cD,cE,cF,cG];omega)) ?_|refine zn ?_|refine zb ?_|refine ze rfl ?_|refine zr ?_|refine zk ?_|refine zT rfl rfl rfl ?_|refine zU rfl rfl rfl ?_|refine zV rfl rfl rfl ?_|refine zf rfl ?_|refine zt rfl ?_)
    refine o_loadc (b := b3) (off := o3 + i * 2 + 0) (v := I z.1) rfl (by rw [Nat.add_assoc]; exact hcell _ _ (flgsC_get hz (j := 0) rfl)) rfl rfl rfl rfl ?_
    (repeat first|refine zA ?_|refine zB ?_|refine zC ?_|refine zD ?_|refine zE ?_|refine zg ?_|refine zo rfl rfl (by first|exact trivial|(simp only[AllP];omega)|(simp(discharger:=omega)only[AllP,cA,cB];omega)|(simp only[AllP,cC,cD,cE,cF,cG];omega)) ?_|refine zn ?_|refine zb ?_|refine ze rfl ?_|refine zr ?_|refine zk ?_|refine zT rfl rfl rfl ?_|refine zU rfl rfl rfl ?_|refine zV rfl rfl rfl ?_|refine zf rfl ?_|refine zt rfl ?_)
    refine o_call (xPair_ret (hX _ (k011.trans kW3)) z.1) rfl rfl rfl ?_
    rintro v w12 ⟨rfl, k12⟩
    rw [hy]
    simp only [Option.getD_some, Option.isSome_some]
    (repeat first|refine zA ?_|refine zB ?_|refine zC ?_|refine zD ?_|refine zE ?_|refine zg ?_|refine zo rfl rfl (by first|exact trivial|(simp only[AllP];omega)|(simp(discharger:=omega)only[AllP,cA,cB];omega)|(simp only[AllP,cC,cD,cE,cF,cG];omega)) ?_|refine zn ?_|refine zb ?_|refine ze rfl ?_|refine zr ?_|refine zk ?_|refine zT rfl rfl rfl ?_|refine zU rfl rfl rfl ?_|refine zV rfl rfl rfl ?_|refine zf rfl ?_|refine zt rfl ?_)
    refine o_alloc rfl rfl rfl rfl ?_
    intro bp w13 hbp hu13
    refine o_storeA (cs := pairC y) rfl hu13.blk (Nat.le_refl _) rfl (by simp [Value.oneCell']) rfl rfl rfl rfl ?_
    intro w14 hu14
    have k14 : Kp [] w12 w14 := (hu13.kp [] (.inr (by omega))).since (hu14.kp [bp] (.inl (by simp))) (by simp; omega)
    have hP14 : Blk w14 bp (pairC y) 53 := hu14.blk
    have kk := (kW3.trans k12).trans k14
    have hfc : ∀ W', Sm w14 W' → ∀ (k : Nat) u, fl[k]? = some u → ∀ j v, (flgC u)[j]? = some v → W'.cell? ⟨b3, o3 + k * 2 + j, none⟩ = some v := fun W' s k u hu j v hv => by
      obtain ⟨b3', o3', h1, _, h3⟩ := ((hf11.kp kk (by simp)).kp (s.kp []) (by simp)).at_ (by rw [flgsC_len]; omega)
      cases h1
      rw [Nat.add_assoc]
      exact h3 _ _ (flgsC_get hu hv)
    (repeat first|refine zA ?_|refine zB ?_|refine zC ?_|refine zD ?_|refine zE ?_|refine zg ?_|refine zo rfl rfl (by first|exact trivial|(simp only[AllP];omega)|(simp(discharger:=omega)only[AllP,cA,cB];omega)|(simp only[AllP,cC,cD,cE,cF,cG];omega)) ?_|refine zn ?_|refine zb ?_|refine ze rfl ?_|refine zr ?_|refine zk ?_|refine zT rfl rfl rfl ?_|refine zU rfl rfl rfl ?_|refine zV rfl rfl rfl ?_|refine zf rfl ?_|refine zt rfl ?_)
    refine r_seq ?_
    refine r_bool [5, 13, 16] [ptr g.p, .slice (some ⟨b3, o3, none⟩) fl.length capf, I i] 227 false (fun w' => Sm w14 w') ?_ ?_
    · refine r_quietS follows_mixed (by kernel_rfl) ?_
      (repeat first|refine yo rfl rfl (by first|exact trivial|(simp only[AllP];omega)|(simp(discharger:=omega)only[AllP,cA,cB];omega)|(simp only[AllP,cC,cD,cE,cF,cG];omega)) ?_|refine yn ?_|refine q_know _ _ (some true) rfl rfl rfl ?_|refine q_know _ _ (some false) rfl rfl rfl ?_|refine q_know _ _ none rfl rfl rfl ?_)
      refine q_load (v := I (y.2.2 : Int)) rfl (fun W' s => (s.blk hP14).cell rfl) rfl rfl rfl rfl ?_
      (repeat first|refine yo rfl rfl (by first|exact trivial|(simp only[AllP];omega)|(simp(discharger:=omega)only[AllP,cA,cB];omega)|(simp only[AllP,cC,cD,cE,cF,cG];omega)) ?_|refine yn ?_|refine q_know _ _ (some true) rfl rfl rfl ?_|refine q_know _ _ (some false) rfl rfl rfl ?_|refine q_know _ _ none rfl rfl rfl ?_)
      refine q_load (b := b3) (off := o3 + i * 2 + 1) (v := I z.2) rfl (fun W' s => hfc W' s i z hz 1 _ rfl) rfl rfl rfl rfl ?_
      (repeat first|refine yo rfl rfl (by first|exact trivial|(simp only[AllP];omega)|(simp(discharger:=omega)only[AllP,cA,cB];omega)|(simp only[AllP,cC,cD,cE,cF,cG];omega)) ?_|refine yn ?_|refine q_know _ _ (some true) rfl rfl rfl ?_|refine q_know _ _ (some false) rfl rfl rfl ?_|refine q_know _ _ none rfl rfl rfl ?_)
      refine q_is false 12 false rfl rfl rfl (by simp; omega) ?_
      (repeat first|refine yo rfl rfl (by first|exact trivial|(simp only[AllP];omega)|(simp(discharger:=omega)only[AllP,cA,cB];omega)|(simp only[AllP,cC,cD,cE,cF,cG];omega)) ?_|refine yn ?_|refine q_know _ _ (some true) rfl rfl rfl ?_|refine q_know _ _ (some false) rfl rfl rfl ?_|refine q_know _ _ none rfl rfl rfl ?_)
      refine q_load (v := I y.1) rfl (fun W' s => (s.blk hP14).cell rfl) rfl rfl rfl rfl ?_
      (repeat first|refine yo rfl rfl (by first|exact trivial|(simp only[AllP];omega)|(simp(discharger:=omega)only[AllP,cA,cB];omega)|(simp only[AllP,cC,cD,cE,cF,cG];omega)) ?_|refine yn ?_|refine q_know _ _ (some true) rfl rfl rfl ?_|refine q_know _ _ (some false) rfl rfl rfl ?_|refine q_know _ _ none rfl rfl rfl ?_)
      refine q_load (b := b3) (off := o3 + i * 2 + 0) (v := I z.1) rfl (fun W' s => hfc W' s i z hz 0 _ rfl) rfl rfl rfl rfl ?_
      (repeat first|refine yo rfl rfl (by first|exact trivial|(simp only[AllP];omega)|(simp(discharger:=omega)only[AllP,cA,cB];omega)|(simp only[AllP,cC,cD,cE,cF,cG];omega)) ?_|refine yn ?_|refine q_know _ _ (some true) rfl rfl rfl ?_|refine q_know _ _ (some false) rfl rfl rfl ?_|refine q_know _ _ none rfl rfl rfl ?_)
      refine q_is false 22 false rfl rfl rfl (by simp; omega) ?_
      (repeat first|refine yo rfl rfl (by first|exact trivial|(simp only[AllP];omega)|(simp(discharger:=omega)only[AllP,cA,cB];omega)|(simp only[AllP,cC,cD,cE,cF,cG];omega)) ?_|refine yn ?_|refine q_know _ _ (some true) rfl rfl rfl ?_|refine q_know _ _ (some false) rfl rfl rfl ?_|refine q_know _ _ none rfl rfl rfl ?_)
      by_cases hi0 : i = 0
      · refine q_is false 25 true rfl rfl rfl (by simp; omega) ?_
        (repeat first|refine yo rfl rfl (by first|exact trivial|(simp only[AllP];omega)|(simp(discharger:=omega)only[AllP,cA,cB];omega)|(simp only[AllP,cC,cD,cE,cF,cG];omega)) ?_|refine yn ?_|refine q_know _ _ (some true) rfl rfl rfl ?_|refine q_know _ _ (some false) rfl rfl rfl ?_|refine q_know _ _ none rfl rfl rfl ?_)
        intro W' s
        exact ⟨rfl, ⟨_, rfl, by simp⟩, s⟩
      · obtain ⟨u, hu⟩ : ∃ u, fl[i - 1]? = some u := ⟨_, List.getElem?_eq_getElem (by omega)⟩
        have hlt2 : u.1 < z.1 := by
          have hp := flagsV_sorted (E := l) (R := R) (l.length : Nat)
          rw [hFl, List.pairwise_iff_getElem] at hp
          have h1 := hp (i - 1) i (by omega) (by omega) (by omega)
          rw [List.getElem?_eq_getElem (by omega)] at hu hz
          cases hu; cases hz
          exact h1
        refine q_is true 25 true rfl rfl rfl (by simp; omega) ?_
        (repeat first|refine yo rfl rfl (by first|exact trivial|(simp only[AllP];omega)|(simp(discharger:=omega)only[AllP,cA,cB];omega)|(simp only[AllP,cC,cD,cE,cF,cG];omega)) ?_|refine yn ?_|refine q_know _ _ (some true) rfl rfl rfl ?_|refine q_know _ _ (some false) rfl rfl rfl ?_|refine q_know _ _ none rfl rfl rfl ?_)
        refine q_load (b := b3) (off := o3 + i * 2 + 0) (v := I z.1) rfl (fun W' s => hfc W' s i z hz 0 _ rfl) rfl rfl rfl rfl ?_
        (repeat first|refine yo rfl rfl (by first|exact trivial|(simp only[AllP];omega)|(simp(discharger:=omega)only[AllP,cA,cB];omega)|(simp only[AllP,cC,cD,cE,cF,cG];omega)) ?_|refine yn ?_|refine q_know _ _ (some true) rfl rfl rfl ?_|refine q_know _ _ (some false) rfl rfl rfl ?_|refine q_know _ _ none rfl rfl rfl ?_)
        refine q_load (b := b3) (off := o3 + ((i : Int) - 1).toNat * 2 + 0) (v := I u.1) rfl (fun W' s => by rw [show ((i : Int) - 1).toNat = i - 1 by omega]; exact hfc W' s (i - 1) u hu 0 _ rfl) rfl rfl rfl rfl ?_
        (repeat first|refine yo rfl rfl (by first|exact trivial|(simp only[AllP];omega)|(simp(discharger:=omega)only[AllP,cA,cB];omega)|(simp only[AllP,cC,cD,cE,cF,cG];omega)) ?_|refine yn ?_|refine q_know _ _ (some true) rfl rfl rfl ?_|refine q_know _ _ (some false) rfl rfl rfl ?_|refine q_know _ _ none rfl rfl rfl ?_)
        intro W' s
        exact ⟨rfl, ⟨_, rfl, by simp; omega⟩, s⟩
    intro e w15 s15
    refine r_cond_f rfl ?_
    (repeat first|refine zA ?_|refine zB ?_|refine zC ?_|refine zD ?_|refine zE ?_|refine zg ?_|refine zo rfl rfl (by first|exact trivial|(simp only[AllP];omega)|(simp(discharger:=omega)only[AllP,cA,cB];omega)|(simp only[AllP,cC,cD,cE,cF,cG];omega)) ?_|refine zn ?_|refine zb ?_|refine ze rfl ?_|refine zr ?_|refine zk ?_|refine zT rfl rfl rfl ?_|refine zU rfl rfl rfl ?_|refine zV rfl rfl rfl ?_|refine zf rfl ?_|refine zt rfl ?_)
    exact ⟨i + 1, rfl, ⟨by omega, kk.trans (s15.kp [])⟩, by omega⟩
  (repeat first|refine zA ?_|refine zB ?_|refine zC ?_|refine zD ?_|refine zE ?_|refine zg ?_|refine zo rfl rfl (by first|exact trivial|(simp only[AllP];omega)|(simp(discharger:=omega)only[AllP,cA,cB];omega)|(simp only[AllP,cC,cD,cE,cF,cG];omega)) ?_|refine zn ?_|refine zb ?_|refine ze rfl ?_|refine zr ?_|refine zk ?_|refine zT rfl rfl rfl ?_|refine zU rfl rfl rfl ?_|refine zV rfl rfl rfl ?_|refine zf rfl ?_|refine zt rfl ?_)
  exact ⟨_, rfl, rfl, k03.trans (k011.trans kW3)⟩
end Go.Vc
