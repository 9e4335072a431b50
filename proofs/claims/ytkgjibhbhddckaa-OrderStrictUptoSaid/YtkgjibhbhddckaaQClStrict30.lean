/- order: Past. -/
import Derived.Test.YtkgjibhbhddckaaQClStrict29
namespace Go.Vc
open Go Go.Proofs
set_option maxRecDepth 10000
variable {w : World}
section
variable {g : OrG} {E : List Ev} {R : List Int}
noncomputable def pastB (E : List Ev) (R : List Int) (i k : Int) : Bool := decide (k = i) || befI E R i k
noncomputable def pastL (E : List Ev) (R : List Int) (ks : List Int) (n : Nat) : List Int := ((List.range n).filter fun i : Nat => ks.any fun k => pastB E R i k).map fun i : Nat => (i : Int)
theorem pastL_succ (E : List Ev) (R : List Int) (ks : List Int) (n : Nat) : pastL E R ks (n + 1) = pastL E R ks n ++ (if ks.any (fun k => pastB E R n k) = true then [(n : Int)] else []) := by
  unfold pastL
  rw [List.range_succ, List.filter_append, List.map_append]
  congr 1
  simp only [List.filter_cons, List.filter_nil]
  split <;> rfl
theorem pastL_len (E : List Ev) (R : List Int) (ks : List Int) (n : Nat) : (pastL E R ks n).length ≤ n := by
  unfold pastL
  rw [List.length_map]
  exact Nat.le_trans (List.length_filter_le _ _) (by simp)
theorem Past1_ret (h : OrAt w g E R) {bi bo : Nat} {i : Int} (hi : Blk w bi [I i] 3) (ho : Blk w bo [ptr g.p] 26) (k : Int) :
    Ret Try.prog 63 [I k, ptr bi, ptr bo] w (fun v w' => v = .bool (pastB E R i k) ∧ w' = w) := by
  refine enter Try.call63 Try.func63 rfl rfl rfl rfl ?_
  (repeat first|refine zA ?_|refine zB ?_|refine zC ?_|refine zD ?_|refine zE ?_|refine zg ?_|refine zo rfl rfl (by first|exact trivial|(simp only[AllP];omega)|(simp(discharger:=omega)only[AllP,cA,cB];omega)|(simp only[AllP,cC,cD,cE,cF,cG];omega)) ?_|refine zn ?_|refine zb ?_|refine ze rfl ?_|refine zr ?_|refine zk ?_|refine zT rfl rfl rfl ?_|refine zU rfl rfl rfl ?_|refine zV rfl rfl rfl ?_|refine zf rfl ?_|refine zt rfl ?_)
  refine o_load rfl hi rfl rfl rfl rfl rfl ?_
  (repeat first|refine zA ?_|refine zB ?_|refine zC ?_|refine zD ?_|refine zE ?_|refine zg ?_|refine zo rfl rfl (by first|exact trivial|(simp only[AllP];omega)|(simp(discharger:=omega)only[AllP,cA,cB];omega)|(simp only[AllP,cC,cD,cE,cF,cG];omega)) ?_|refine zn ?_|refine zb ?_|refine ze rfl ?_|refine zr ?_|refine zk ?_|refine zT rfl rfl rfl ?_|refine zU rfl rfl rfl ?_|refine zV rfl rfl rfl ?_|refine zf rfl ?_|refine zt rfl ?_)
  by_cases hk : k = i
  · refine o_is true 3 false rfl rfl rfl (decide_eq_true hk) ?_
    (repeat first|refine zA ?_|refine zB ?_|refine zC ?_|refine zD ?_|refine zE ?_|refine zg ?_|refine zo rfl rfl (by first|exact trivial|(simp only[AllP];omega)|(simp(discharger:=omega)only[AllP,cA,cB];omega)|(simp only[AllP,cC,cD,cE,cF,cG];omega)) ?_|refine zn ?_|refine zb ?_|refine ze rfl ?_|refine zr ?_|refine zk ?_|refine zT rfl rfl rfl ?_|refine zU rfl rfl rfl ?_|refine zV rfl rfl rfl ?_|refine zf rfl ?_|refine zt rfl ?_)
    exact ⟨_, rfl, by unfold pastB; rw [decide_eq_true hk]; rfl, rfl⟩
  · refine o_is false 3 false rfl rfl rfl (decide_eq_false hk) ?_
    (repeat first|refine zA ?_|refine zB ?_|refine zC ?_|refine zD ?_|refine zE ?_|refine zg ?_|refine zo rfl rfl (by first|exact trivial|(simp only[AllP];omega)|(simp(discharger:=omega)only[AllP,cA,cB];omega)|(simp only[AllP,cC,cD,cE,cF,cG];omega)) ?_|refine zn ?_|refine zb ?_|refine ze rfl ?_|refine zr ?_|refine zk ?_|refine zT rfl rfl rfl ?_|refine zU rfl rfl rfl ?_|refine zV rfl rfl rfl ?_|refine zf rfl ?_|refine zt rfl ?_)
    refine o_load rfl ho rfl rfl rfl rfl rfl ?_
    (repeat first|refine zA ?_|refine zB ?_|refine zC ?_|refine zD ?_|refine zE ?_|refine zg ?_|refine zo rfl rfl (by first|exact trivial|(simp only[AllP];omega)|(simp(discharger:=omega)only[AllP,cA,cB];omega)|(simp only[AllP,cC,cD,cE,cF,cG];omega)) ?_|refine zn ?_|refine zb ?_|refine ze rfl ?_|refine zr ?_|refine zk ?_|refine zT rfl rfl rfl ?_|refine zU rfl rfl rfl ?_|refine zV rfl rfl rfl ?_|refine zf rfl ?_|refine zt rfl ?_)
    refine o_load rfl hi rfl rfl rfl rfl rfl ?_
    (repeat first|refine zA ?_|refine zB ?_|refine zC ?_|refine zD ?_|refine zE ?_|refine zg ?_|refine zo rfl rfl (by first|exact trivial|(simp only[AllP];omega)|(simp(discharger:=omega)only[AllP,cA,cB];omega)|(simp only[AllP,cC,cD,cE,cF,cG];omega)) ?_|refine zn ?_|refine zb ?_|refine ze rfl ?_|refine zr ?_|refine zk ?_|refine zT rfl rfl rfl ?_|refine zU rfl rfl rfl ?_|refine zV rfl rfl rfl ?_|refine zf rfl ?_|refine zt rfl ?_)
    refine o_call (oBefore_ret h i k) rfl rfl rfl ?_
    rintro v w1 ⟨rfl, rfl⟩
    (repeat first|refine zA ?_|refine zB ?_|refine zC ?_|refine zD ?_|refine zE ?_|refine zg ?_|refine zo rfl rfl (by first|exact trivial|(simp only[AllP];omega)|(simp(discharger:=omega)only[AllP,cA,cB];omega)|(simp only[AllP,cC,cD,cE,cF,cG];omega)) ?_|refine zn ?_|refine zb ?_|refine ze rfl ?_|refine zr ?_|refine zk ?_|refine zT rfl rfl rfl ?_|refine zU rfl rfl rfl ?_|refine zV rfl rfl rfl ?_|refine zf rfl ?_|refine zt rfl ?_)
    exact ⟨_, rfl, by unfold pastB; rw [decide_eq_false hk]; rfl, rfl⟩
theorem IndexPast_ret (h : OrAt w g E R) {bi bo : Nat} {i : Int} (hi : Blk w bi [I i] 3) (ho : Blk w bo [ptr g.p] 26) {ad : Option Addr} {ks : List Int} {cap : Nat} (hr : ReadS w ad (ks.map I)) (hl : ks.length ≤ 4611686018427387904) :
    Ret Try.prog 88 [.slice ad ks.length cap, .func (.func 63) #[] #[ptr bi, ptr bo]] w (fun v w' => ∃ r : Int, v = I r ∧ (0 ≤ r ↔ ks.any (fun k => pastB E R i k) = true) ∧ w' = w) := by
  refine enter Try.call88 Try.func88 rfl rfl rfl rfl ?_
  (repeat first|refine zA ?_|refine zB ?_|refine zC ?_|refine zD ?_|refine zE ?_|refine zg ?_|refine zo rfl rfl (by first|exact trivial|(simp only[AllP];omega)|(simp(discharger:=omega)only[AllP,cA,cB];omega)|(simp only[AllP,cC,cD,cE,cF,cG];omega)) ?_|refine zn ?_|refine zb ?_|refine ze rfl ?_|refine zr ?_|refine zk ?_|refine zT rfl rfl rfl ?_|refine zU rfl rfl rfl ?_|refine zV rfl rfl rfl ?_|refine zf rfl ?_|refine zt rfl ?_)
  refine r_loop (α := Nat) [0, 1, 7, 8] (fun j => [.slice ad ks.length cap, .func (.func 63) #[] #[ptr bi, ptr bo], I ks.length, I j]) (fun j w1 => w = w1 ∧ j ≤ ks.length ∧ (ks.take j).any (fun k => pastB E R i k) = false) (fun j => ks.length - j) 0 rfl ⟨rfl, by omega, rfl⟩ ?_
  rintro j e w1 ⟨rfl, hj, hany⟩
  (repeat first|refine zA ?_|refine zB ?_|refine zC ?_|refine zD ?_|refine zE ?_|refine zg ?_|refine zo rfl rfl (by first|exact trivial|(simp only[AllP];omega)|(simp(discharger:=omega)only[AllP,cA,cB];omega)|(simp only[AllP,cC,cD,cE,cF,cG];omega)) ?_|refine zn ?_|refine zb ?_|refine ze rfl ?_|refine zr ?_|refine zk ?_|refine zT rfl rfl rfl ?_|refine zU rfl rfl rfl ?_|refine zV rfl rfl rfl ?_|refine zf rfl ?_|refine zt rfl ?_)
  refine r_if rfl (fun hc => ?_) (fun hc => ?_)
  · have hlt : j < ks.length := by omega
    obtain ⟨x, hx⟩ : ∃ x, ks[j]? = some x := ⟨_, List.getElem?_eq_getElem hlt⟩
    obtain ⟨b, off, rfl, _, hcell⟩ := hr.at_ (by simp; omega)
    (repeat first|refine zA ?_|refine zB ?_|refine zC ?_|refine zD ?_|refine zE ?_|refine zg ?_|refine zo rfl rfl (by first|exact trivial|(simp only[AllP];omega)|(simp(discharger:=omega)only[AllP,cA,cB];omega)|(simp only[AllP,cC,cD,cE,cF,cG];omega)) ?_|refine zn ?_|refine zb ?_|refine ze rfl ?_|refine zr ?_|refine zk ?_|refine zT rfl rfl rfl ?_|refine zU rfl rfl rfl ?_|refine zV rfl rfl rfl ?_|refine zf rfl ?_|refine zt rfl ?_)
    refine o_loadc (v := I x) rfl (hcell j _ (by rw [List.getElem?_map, hx]; rfl)) rfl rfl rfl rfl ?_
    (repeat first|refine zA ?_|refine zB ?_|refine zC ?_|refine zD ?_|refine zE ?_|refine zg ?_|refine zo rfl rfl (by first|exact trivial|(simp only[AllP];omega)|(simp(discharger:=omega)only[AllP,cA,cB];omega)|(simp only[AllP,cC,cD,cE,cF,cG];omega)) ?_|refine zn ?_|refine zb ?_|refine ze rfl ?_|refine zr ?_|refine zk ?_|refine zT rfl rfl rfl ?_|refine zU rfl rfl rfl ?_|refine zV rfl rfl rfl ?_|refine zf rfl ?_|refine zt rfl ?_)
    refine o_callv (first := #[]) (cap := #[ptr bi, ptr bo]) (Past1_ret h hi ho x) rfl rfl rfl rfl ?_
    rintro v w2 ⟨rfl, rfl⟩
    (repeat first|refine zA ?_|refine zB ?_|refine zC ?_|refine zD ?_|refine zE ?_|refine zg ?_|refine zo rfl rfl (by first|exact trivial|(simp only[AllP];omega)|(simp(discharger:=omega)only[AllP,cA,cB];omega)|(simp only[AllP,cC,cD,cE,cF,cG];omega)) ?_|refine zn ?_|refine zb ?_|refine ze rfl ?_|refine zr ?_|refine zk ?_|refine zT rfl rfl rfl ?_|refine zU rfl rfl rfl ?_|refine zV rfl rfl rfl ?_|refine zf rfl ?_|refine zt rfl ?_)
    cases hp : pastB E R i x with
    | true =>
      refine r_yes rfl rfl ?_
      (repeat first|refine zA ?_|refine zB ?_|refine zC ?_|refine zD ?_|refine zE ?_|refine zg ?_|refine zo rfl rfl (by first|exact trivial|(simp only[AllP];omega)|(simp(discharger:=omega)only[AllP,cA,cB];omega)|(simp only[AllP,cC,cD,cE,cF,cG];omega)) ?_|refine zn ?_|refine zb ?_|refine ze rfl ?_|refine zr ?_|refine zk ?_|refine zT rfl rfl rfl ?_|refine zU rfl rfl rfl ?_|refine zV rfl rfl rfl ?_|refine zf rfl ?_|refine zt rfl ?_)
      exact ⟨_, rfl, j, rfl, ⟨fun _ => List.any_eq_true.2 ⟨x, List.mem_of_getElem? hx, hp⟩, fun _ => by omega⟩, rfl⟩
    | false =>
      refine r_no rfl rfl ?_
      (repeat first|refine zA ?_|refine zB ?_|refine zC ?_|refine zD ?_|refine zE ?_|refine zg ?_|refine zo rfl rfl (by first|exact trivial|(simp only[AllP];omega)|(simp(discharger:=omega)only[AllP,cA,cB];omega)|(simp only[AllP,cC,cD,cE,cF,cG];omega)) ?_|refine zn ?_|refine zb ?_|refine ze rfl ?_|refine zr ?_|refine zk ?_|refine zT rfl rfl rfl ?_|refine zU rfl rfl rfl ?_|refine zV rfl rfl rfl ?_|refine zf rfl ?_|refine zt rfl ?_)
      refine ⟨j + 1, rfl, ⟨rfl, by omega, ?_⟩, by omega⟩
      rw [List.take_add_one, hx, List.any_append, hany]
      simp [hp]
  · (repeat first|refine zA ?_|refine zB ?_|refine zC ?_|refine zD ?_|refine zE ?_|refine zg ?_|refine zo rfl rfl (by first|exact trivial|(simp only[AllP];omega)|(simp(discharger:=omega)only[AllP,cA,cB];omega)|(simp only[AllP,cC,cD,cE,cF,cG];omega)) ?_|refine zn ?_|refine zb ?_|refine ze rfl ?_|refine zr ?_|refine zk ?_|refine zT rfl rfl rfl ?_|refine zU rfl rfl rfl ?_|refine zV rfl rfl rfl ?_|refine zf rfl ?_|refine zt rfl ?_)
    have : j = ks.length := by omega
    subst this
    rw [List.take_length] at hany
    exact ⟨_, rfl, -1, rfl, ⟨fun h => by omega, fun h => by rw [hany] at h; cases h⟩, rfl⟩
theorem ContainsPast_ret (h : OrAt w g E R) {bi bo : Nat} {i : Int} (hi : Blk w bi [I i] 3) (ho : Blk w bo [ptr g.p] 26) {ad : Option Addr} {ks : List Int} {cap : Nat} (hr : ReadS w ad (ks.map I)) (hl : ks.length ≤ 4611686018427387904) :
    Ret Try.prog 62 [.slice ad ks.length cap, .func (.func 63) #[] #[ptr bi, ptr bo]] w (fun v w' => v = .bool (ks.any (fun k => pastB E R i k)) ∧ w' = w) := by
  refine enter Try.call62 Try.func62 rfl rfl rfl rfl ?_
  (repeat first|refine zA ?_|refine zB ?_|refine zC ?_|refine zD ?_|refine zE ?_|refine zg ?_|refine zo rfl rfl (by first|exact trivial|(simp only[AllP];omega)|(simp(discharger:=omega)only[AllP,cA,cB];omega)|(simp only[AllP,cC,cD,cE,cF,cG];omega)) ?_|refine zn ?_|refine zb ?_|refine ze rfl ?_|refine zr ?_|refine zk ?_|refine zT rfl rfl rfl ?_|refine zU rfl rfl rfl ?_|refine zV rfl rfl rfl ?_|refine zf rfl ?_|refine zt rfl ?_)
  refine o_call (IndexPast_ret h hi ho hr hl) rfl rfl rfl ?_
  rintro v w1 ⟨r, rfl, hq, rfl⟩
  (repeat first|refine zA ?_|refine zB ?_|refine zC ?_|refine zD ?_|refine zE ?_|refine zg ?_|refine zo rfl rfl (by first|exact trivial|(simp only[AllP];omega)|(simp(discharger:=omega)only[AllP,cA,cB];omega)|(simp only[AllP,cC,cD,cE,cF,cG];omega)) ?_|refine zn ?_|refine zb ?_|refine ze rfl ?_|refine zr ?_|refine zk ?_|refine zT rfl rfl rfl ?_|refine zU rfl rfl rfl ?_|refine zV rfl rfl rfl ?_|refine zf rfl ?_|refine zt rfl ?_)
  refine ⟨_, rfl, ?_, rfl⟩
  congr 1
  cases ha : ks.any (fun k => pastB E R i k) with
  | true => have := hq.2 ha; simpa using this
  | false =>
    have : ¬ 0 ≤ r := fun h0 => by have := hq.1 h0; rw [ha] at this; cases this
    simp; omega
theorem oPast_ret (h : OrAt w g E R) {ad : Option Addr} {ks : List Int} {cap : Nat} (hr : ReadS w ad (ks.map I)) (hl : ks.length ≤ 1048576) :
    Ret Try.prog 12 [ptr g.p, .slice ad ks.length cap] w (fun v w' => ∃ ad' cap', v = .slice ad' (pastL E R ks E.length).length cap' ∧ NewS w 3 w' ad' (pastL E R ks E.length).length cap' ((pastL E R ks E.length).map I)) := by
  have hsm := h.small
  refine enter Try.call12 Try.func12 rfl rfl rfl rfl ?_
  (repeat first|refine zA ?_|refine zB ?_|refine zC ?_|refine zD ?_|refine zE ?_|refine zg ?_|refine zo rfl rfl (by first|exact trivial|(simp only[AllP];omega)|(simp(discharger:=omega)only[AllP,cA,cB];omega)|(simp only[AllP,cC,cD,cE,cF,cG];omega)) ?_|refine zn ?_|refine zb ?_|refine ze rfl ?_|refine zr ?_|refine zk ?_|refine zT rfl rfl rfl ?_|refine zU rfl rfl rfl ?_|refine zV rfl rfl rfl ?_|refine zf rfl ?_|refine zt rfl ?_)
  refine o_box rfl rfl rfl ?_
  intro bo w1 hbo hu1
  have hO1 : Blk w1 bo [ptr g.p] 26 := hu1.blk
  have k1 : Kp [] w w1 := hu1.kp [] (.inr (by omega))
  have h1 := h.kp0 k1
  (repeat first|refine zA ?_|refine zB ?_|refine zC ?_|refine zD ?_|refine zE ?_|refine zg ?_|refine zo rfl rfl (by first|exact trivial|(simp only[AllP];omega)|(simp(discharger:=omega)only[AllP,cA,cB];omega)|(simp only[AllP,cC,cD,cE,cF,cG];omega)) ?_|refine zn ?_|refine zb ?_|refine ze rfl ?_|refine zr ?_|refine zk ?_|refine zT rfl rfl rfl ?_|refine zU rfl rfl rfl ?_|refine zV rfl rfl rfl ?_|refine zf rfl ?_|refine zt rfl ?_)
  refine o_load rfl hO1 rfl rfl rfl rfl rfl ?_
  (repeat first|refine zA ?_|refine zB ?_|refine zC ?_|refine zD ?_|refine zE ?_|refine zg ?_|refine zo rfl rfl (by first|exact trivial|(simp only[AllP];omega)|(simp(discharger:=omega)only[AllP,cA,cB];omega)|(simp only[AllP,cC,cD,cE,cF,cG];omega)) ?_|refine zn ?_|refine zb ?_|refine ze rfl ?_|refine zr ?_|refine zk ?_|refine zT rfl rfl rfl ?_|refine zU rfl rfl rfl ?_|refine zV rfl rfl rfl ?_|refine zf rfl ?_|refine zt rfl ?_)
  refine o_call (oLen_ret h1.toOrB) rfl rfl rfl ?_
  rintro v wx ⟨rfl, rfl⟩
  (repeat first|refine zA ?_|refine zB ?_|refine zC ?_|refine zD ?_|refine zE ?_|refine zg ?_|refine zo rfl rfl (by first|exact trivial|(simp only[AllP];omega)|(simp(discharger:=omega)only[AllP,cA,cB];omega)|(simp only[AllP,cC,cD,cE,cF,cG];omega)) ?_|refine zn ?_|refine zb ?_|refine ze rfl ?_|refine zr ?_|refine zk ?_|refine zT rfl rfl rfl ?_|refine zU rfl rfl rfl ?_|refine zV rfl rfl rfl ?_|refine zf rfl ?_|refine zt rfl ?_)
  refine r_loop (α := Nat × Option Addr × Nat) [1, 2, 5, 8, 9] (fun x => [.slice ad ks.length cap, ptr bo, .slice x.2.1 (pastL E R ks x.1).length x.2.2, I E.length, I x.1]) (fun x wc => NewS wx 3 wc x.2.1 (pastL E R ks x.1).length x.2.2 ((pastL E R ks x.1).map I) ∧ x.1 ≤ E.length) (fun x => E.length - x.1) (0, none, 0) rfl ⟨⟨ownS_nil _ _ _, Kp.refl _ _, by simp [blkOf]⟩, by omega⟩ ?_
  rintro ⟨i, adx, capx⟩ e wc ⟨hn, hi⟩
  dsimp only at hn hi ⊢
  have kc := hn.kp
  have hpl := pastL_len E R ks i
  (repeat first|refine zA ?_|refine zB ?_|refine zC ?_|refine zD ?_|refine zE ?_|refine zg ?_|refine zo rfl rfl (by first|exact trivial|(simp only[AllP];omega)|(simp(discharger:=omega)only[AllP,cA,cB];omega)|(simp only[AllP,cC,cD,cE,cF,cG];omega)) ?_|refine zn ?_|refine zb ?_|refine ze rfl ?_|refine zr ?_|refine zk ?_|refine zT rfl rfl rfl ?_|refine zU rfl rfl rfl ?_|refine zV rfl rfl rfl ?_|refine zf rfl ?_|refine zt rfl ?_)
  refine r_if rfl (fun hc => ?_) (fun hc => ?_)
  · (repeat first|refine zA ?_|refine zB ?_|refine zC ?_|refine zD ?_|refine zE ?_|refine zg ?_|refine zo rfl rfl (by first|exact trivial|(simp only[AllP];omega)|(simp(discharger:=omega)only[AllP,cA,cB];omega)|(simp only[AllP,cC,cD,cE,cF,cG];omega)) ?_|refine zn ?_|refine zb ?_|refine ze rfl ?_|refine zr ?_|refine zk ?_|refine zT rfl rfl rfl ?_|refine zU rfl rfl rfl ?_|refine zV rfl rfl rfl ?_|refine zf rfl ?_|refine zt rfl ?_)
    refine o_alloc rfl rfl rfl rfl ?_
    intro bi w3 hbi hu3
    refine o_store (v := I (i : Int)) (c := none) rfl hu3.blk (by simp [Value.cells]) rfl rfl rfl rfl rfl rfl ?_
    intro w4 hu4
    have k4 : Kp [] wc w4 := (hu3.kp [] (.inr (by omega))).since (hu4.kp [bi] (.inl (by simp))) (by simp; omega)
    have hI : Blk w4 bi [I (i : Int)] 3 := hu4.blk
    have h4 := (h1.kp0 kc).kp0 k4
    have hO4 := k4.blk (by simp) (kc.blk (by simp) hO1)
    have hr4 := ((hr.kp k1 (by simp)).kp kc (by simp)).kp k4 (by simp)
    (repeat first|refine zA ?_|refine zB ?_|refine zC ?_|refine zD ?_|refine zE ?_|refine zg ?_|refine zo rfl rfl (by first|exact trivial|(simp only[AllP];omega)|(simp(discharger:=omega)only[AllP,cA,cB];omega)|(simp only[AllP,cC,cD,cE,cF,cG];omega)) ?_|refine zn ?_|refine zb ?_|refine ze rfl ?_|refine zr ?_|refine zk ?_|refine zT rfl rfl rfl ?_|refine zU rfl rfl rfl ?_|refine zV rfl rfl rfl ?_|refine zf rfl ?_|refine zt rfl ?_)
    refine o_call (ContainsPast_ret h4 hI hO4 hr4 (by omega)) rfl rfl rfl ?_
    rintro v w5 ⟨rfl, rfl⟩
    have hn4 := hn.own.kp k4 (by simp)
    have hz := hn.kp.size
    have hsucc := pastL_succ E R ks i
    (repeat first|refine zA ?_|refine zB ?_|refine zC ?_|refine zD ?_|refine zE ?_|refine zg ?_|refine zo rfl rfl (by first|exact trivial|(simp only[AllP];omega)|(simp(discharger:=omega)only[AllP,cA,cB];omega)|(simp only[AllP,cC,cD,cE,cF,cG];omega)) ?_|refine zn ?_|refine zb ?_|refine ze rfl ?_|refine zr ?_|refine zk ?_|refine zT rfl rfl rfl ?_|refine zU rfl rfl rfl ?_|refine zV rfl rfl rfl ?_|refine zf rfl ?_|refine zt rfl ?_)
    cases hany : ks.any (fun k => pastB E R i k) with
    | false =>
      rw [hany, if_neg (by simp), List.append_nil] at hsucc
      refine r_no rfl rfl ?_
      (repeat first|refine zA ?_|refine zB ?_|refine zC ?_|refine zD ?_|refine zE ?_|refine zg ?_|refine zo rfl rfl (by first|exact trivial|(simp only[AllP];omega)|(simp(discharger:=omega)only[AllP,cA,cB];omega)|(simp only[AllP,cC,cD,cE,cF,cG];omega)) ?_|refine zn ?_|refine zb ?_|refine ze rfl ?_|refine zr ?_|refine zk ?_|refine zT rfl rfl rfl ?_|refine zU rfl rfl rfl ?_|refine zV rfl rfl rfl ?_|refine zf rfl ?_|refine zt rfl ?_)
      exact ⟨(i + 1, adx, capx), by dsimp only; rw [hsucc]; rfl, ⟨by dsimp only; rw [hsucc]; exact ⟨hn4, hn.kp.trans k4, hn.new⟩, by dsimp only; omega⟩, by dsimp only; omega⟩
    | true =>
      rw [hany, if_pos rfl] at hsucc
      refine r_yes rfl rfl ?_
      (repeat first|refine zA ?_|refine zB ?_|refine zC ?_|refine zD ?_|refine zE ?_|refine zg ?_|refine zo rfl rfl (by first|exact trivial|(simp only[AllP];omega)|(simp(discharger:=omega)only[AllP,cA,cB];omega)|(simp only[AllP,cC,cD,cE,cF,cG];omega)) ?_|refine zn ?_|refine zb ?_|refine ze rfl ?_|refine zr ?_|refine zk ?_|refine zT rfl rfl rfl ?_|refine zU rfl rfl rfl ?_|refine zV rfl rfl rfl ?_|refine zf rfl ?_|refine zt rfl ?_)
      refine o_load rfl hI rfl rfl rfl rfl rfl ?_
      (repeat first|refine zA ?_|refine zB ?_|refine zC ?_|refine zD ?_|refine zE ?_|refine zg ?_|refine zo rfl rfl (by first|exact trivial|(simp only[AllP];omega)|(simp(discharger:=omega)only[AllP,cA,cB];omega)|(simp only[AllP,cC,cD,cE,cF,cG];omega)) ?_|refine zn ?_|refine zb ?_|refine ze rfl ?_|refine zr ?_|refine zk ?_|refine zT rfl rfl rfl ?_|refine zU rfl rfl rfl ?_|refine zV rfl rfl rfl ?_|refine zf rfl ?_|refine zt rfl ?_)
      refine o_buildSlice [I (i : Int)] rfl (by simp [Value.oneCell']) rfl (by decide) (by decide) rfl rfl rfl rfl rfl ?_
      intro b6 w6 hb6 hu6
      have k6 : Kp [] w5 w6 := hu6.kp [] (.inr (by omega))
      refine o_append1 rfl rfl (hn4.kp k6 (by simp)) hu6.blk rfl rfl rfl rfl (by simp only [maxLen]; omega) (by omega) rfl rfl ?_
      intro ad7 cap7 w7 ho7 k7 hn7
      have z4 := k4.size
      have z6 := k6.size
      have hzc := kc.size
      (repeat first|refine zA ?_|refine zB ?_|refine zC ?_|refine zD ?_|refine zE ?_|refine zg ?_|refine zo rfl rfl (by first|exact trivial|(simp only[AllP];omega)|(simp(discharger:=omega)only[AllP,cA,cB];omega)|(simp only[AllP,cC,cD,cE,cF,cG];omega)) ?_|refine zn ?_|refine zb ?_|refine ze rfl ?_|refine zr ?_|refine zk ?_|refine zT rfl rfl rfl ?_|refine zU rfl rfl rfl ?_|refine zV rfl rfl rfl ?_|refine zf rfl ?_|refine zt rfl ?_)
      refine ⟨(i + 1, ad7, cap7), by dsimp only; rw [hsucc, List.length_append]; rfl, ⟨?_, by dsimp only; omega⟩, by dsimp only; omega⟩
      dsimp only
      rw [hsucc, List.length_append, List.map_append]
      exact ⟨ho7, ((hn.kp.trans k4).trans k6).since k7 hn.new, fun b hb => by
          rcases hn7 b hb with q | q
          · exact hn.new b q
          · omega⟩
  · have hin : i = E.length := by omega
    subst hin
    (repeat first|refine zA ?_|refine zB ?_|refine zC ?_|refine zD ?_|refine zE ?_|refine zg ?_|refine zo rfl rfl (by first|exact trivial|(simp only[AllP];omega)|(simp(discharger:=omega)only[AllP,cA,cB];omega)|(simp only[AllP,cC,cD,cE,cF,cG];omega)) ?_|refine zn ?_|refine zb ?_|refine ze rfl ?_|refine zr ?_|refine zk ?_|refine zT rfl rfl rfl ?_|refine zU rfl rfl rfl ?_|refine zV rfl rfl rfl ?_|refine zf rfl ?_|refine zt rfl ?_)
    exact ⟨_, rfl, adx, capx, rfl, hn.own, k1.trans hn.kp, fun b hb => by have := hn.new b hb; have := k1.size; omega⟩
end
end Go.Vc
/- chains of least length: the plain law. No program. -/
namespace Go.Vc
/-- a way of so many links to j -/
inductive Pn (L : Nat → Nat → Prop) (j : Nat) : Nat → Nat → Prop
  | zero : Pn L j 0 j
  | succ {n k m : Nat} : L k m → Pn L j n m → Pn L j (n + 1) k
def Di (L : Nat → Nat → Prop) (j k n : Nat) : Prop := Pn L j n k ∧ ∀ m, m < n → ¬ Pn L j m k
/-- from each on to the least that is nearer -/
inductive ChainR (L : Nat → Nat → Prop) (j : Nat) : Nat → List Nat → Prop
  | done : ChainR L j j [j]
  | step {k m n : Nat} {l : List Nat} : Di L j k (n + 1) → k < m → L k m → Di L j m n → (∀ m', k < m' → m' < m → ¬ (L k m' ∧ Di L j m' n)) → ChainR L j m l → ChainR L j k (k :: l)
section
variable {L : Nat → Nat → Prop} {j : Nat}
theorem Di.uniq {k n m : Nat} (h : Di L j k n) (g : Di L j k m) : n = m := by
  rcases Nat.lt_trichotomy n m with q | q | q
  · exact absurd h.1 (g.2 n q)
  · exact q
  · exact absurd g.1 (h.2 m q)
theorem Di.self : Di L j j 0 := ⟨.zero, fun m hm => by omega⟩
theorem Pn.di {n k : Nat} (h : Pn L j n k) : ∃ m, m ≤ n ∧ Di L j k m := by
  induction n using Nat.strongRecOn generalizing k with
  | _ n ih =>
    by_cases q : ∃ m, m < n ∧ Pn L j m k
    · obtain ⟨m, hm, hp⟩ := q
      obtain ⟨m', h1, h2⟩ := ih m hm hp
      exact ⟨m', by omega, h2⟩
    · exact ⟨n, Nat.le_refl _, h, fun m hm hp => q ⟨m, hm, hp⟩⟩
theorem Di.next {k n : Nat} (h : Di L j k (n + 1)) : ∃ m, L k m ∧ Di L j m n := by
  obtain ⟨hp, hmin⟩ := h
  cases hp with
  | succ hl hm =>
    rename_i m
    exact ⟨m, hl, hm, fun m' hm' hp' => hmin (m' + 1) (by omega) (.succ hl hp')⟩
theorem Ch.pn {k : Nat} (h : Ch L k j) : ∃ n, Pn L j (n + 1) k := by
  induction h with
  | one h => exact ⟨0, .succ h .zero⟩
  | more h _ ih => obtain ⟨n, hn⟩ := ih; exact ⟨n + 1, .succ h hn⟩
theorem Pn.ch {n k : Nat} (h : Pn L j (n + 1) k) : Ch L k j := by
  induction n generalizing k with
  | zero =>
    cases h with
    | succ hl hm => cases hm; exact .one hl
  | succ n ih =>
    cases h with
    | succ hl hm => exact .more hl (ih hm)
theorem ChainR.uniq {k : Nat} {l l' : List Nat} (h : ChainR L j k l) (g : ChainR L j k l') : l = l' := by
  induction h generalizing l' with
  | done =>
    cases g with
    | done => rfl
    | step h1 => exact absurd .zero (h1.2 0 (by omega))
  | step h1 h2 h3 h4 h5 h6 ih =>
    cases g with
    | done => exact absurd .zero (h1.2 0 (by omega))
    | step g1 g2 g3 g4 g5 g6 =>
      rename_i k m n l m' n' l'
      have e := h1.uniq g1
      have e : n = n' := by omega
      subst e
      have em : m = m' := by
        rcases Nat.lt_trichotomy m m' with q | q | q
        · exact absurd ⟨h3, h4⟩ (g5 m h2 q)
        · exact q
        · exact absurd ⟨g3, g4⟩ (h5 m' g2 q)
      subst em
      rw [ih g6]
variable (hL : ∀ a b, L a b → a < b)
include hL
theorem Pn.le {n k : Nat} (h : Pn L j n k) : k + n ≤ j := by
  induction h with
  | zero => omega
  | succ hl _ ih => have := hL _ _ hl; omega
omit hL in
theorem nodup_bound : ∀ (n : Nat) (l : List Nat), l.Nodup → (∀ x ∈ l, x < n) → l.length ≤ n
  | 0, l, _, h => by
    cases l with
    | nil => simp
    | cons x r => have := h x (by simp); omega
  | n + 1, l, hd, h => by
    by_cases hm : n ∈ l
    · have := nodup_bound n (l.erase n) (hd.erase n) (fun x hx => by
        have h1 := (hd.mem_erase_iff).1 hx
        have := h x h1.2
        have := h1.1
        omega)
      rw [List.length_erase_of_mem hm] at this
      omega
    · have := nodup_bound n l hd (fun x hx => by
        have := h x hx
        have : x ≠ n := fun e => hm (e ▸ hx)
        omega)
      omega
end
/-! ### Level by level -/
structure Bf (L : Nat → Nat → Prop) (i j : Nat) (far : Nat → Option Nat) (proc todo : List Nat) : Prop where
  f1 : ∀ k n, far k = some n → Di L j k n ∧ i ≤ k ∧ k ≤ j
  f2 : far j = some 0
  mem : ∀ k, k ∈ proc ++ todo ↔ (far k).isSome = true
  nd : (proc ++ todo).Nodup
  closed : ∀ k ∈ proc, ∀ p, i ≤ p → L p k → (far p).isSome = true
  lev : todo.Pairwise fun a b => (far a).getD 0 ≤ (far b).getD 0
  span : ∀ h ∈ todo.head?, ∀ k ∈ todo, (far k).getD 0 ≤ (far h).getD 0 + 1
section
variable {L : Nat → Nat → Prop} {i j : Nat} {far : Nat → Option Nat} {proc todo : List Nat}
def upN (far : Nat → Option Nat) (k n : Nat) (x : Nat) : Option Nat := if x = k then some n else far x
theorem Bf.start (hij : i ≤ j) : Bf L i j (upN (fun _ => none) j 0) [] [j] where
  f1 := fun k n h => by
    unfold upN at h
    by_cases q : k = j
    · subst q; rw [if_pos rfl] at h; cases h; exact ⟨Di.self, hij, Nat.le_refl _⟩
    · rw [if_neg q] at h; cases h
  f2 := by simp [upN]
  mem := fun k => by
    unfold upN
    by_cases q : k = j
    · simp [q]
    · simp [q]
  nd := by simp
  closed := by simp
  lev := by simp
  span := by simp
/-- all that are as near as the head are met -/
theorem Bf.met {h : Nat} {r : List Nat} {d : Nat} (b : Bf L i j far proc (h :: r)) (hL : ∀ a b, L a b → a < b) (hd : far h = some d) : ∀ n, n ≤ d → ∀ k, i ≤ k → Di L j k n → (far k).isSome = true := by
  intro n
  induction n with
  | zero =>
    intro _ k _ hk
    have := hk.1
    cases this
    rw [b.f2]; rfl
  | succ n ih =>
    intro hn k hik hk
    obtain ⟨m, hl, hm⟩ := hk.next
    have hkm := hL _ _ hl
    have hmet := ih (by omega) m (by omega) hm
    obtain ⟨n', hn'⟩ := Option.isSome_iff_exists.1 hmet
    have e := (b.f1 m n' hn').1.uniq hm
    subst e
    have hin := (b.mem m).2 hmet
    rcases List.mem_append.1 hin with q | q
    · exact b.closed m q k hik hl
    · exfalso
      rcases List.mem_cons.1 q with e | q
      · subst e; rw [hd] at hn'; cases hn'; omega
      · have := (List.pairwise_cons.1 b.lev).1 m q
        rw [hd, hn'] at this
        simp at this; omega
/-- one is met -/
theorem Bf.push {h : Nat} {r : List Nat} {d k : Nat} (b : Bf L i j far proc (h :: r)) (hL : ∀ a b, L a b → a < b) (hd : far h = some d) (hk : far k = none) (hik : i ≤ k) (hl : L k h) : Bf L i j (upN far k (d + 1)) proc (h :: (r ++ [k])) := by
  have hkn : k ∉ proc ++ (h :: r) := fun q => by have := (b.mem k).1 q; rw [hk] at this; cases this
  have hhj := (b.f1 h d hd).2.2
  have hkh := hL _ _ hl
  have hdi : Di L j k (d + 1) := ⟨.succ hl (b.f1 h d hd).1.1, fun m hm hp => by
    obtain ⟨m', h1, h2⟩ := hp.di
    have := b.met hL hd m' (by omega) k hik h2
    rw [hk] at this; cases this⟩
  have old : ∀ x, x ∈ proc ++ (h :: r) → upN far k (d + 1) x = far x := fun x hx => by
    have hne : x ≠ k := fun e => hkn (by rw [← e]; exact hx)
    unfold upN; rw [if_neg hne]
  have oldr : ∀ x, x ∈ h :: r → upN far k (d + 1) x = far x := fun x hx => old x (List.mem_append_right _ hx)
  have e1 : upN far k (d + 1) k = some (d + 1) := by unfold upN; rw [if_pos rfl]
  have hk2 : k ≠ j := fun e => by subst e; rw [b.f2] at hk; cases hk
  refine ⟨fun x n hx => ?_, ?_, fun x => ?_, ?_, fun x hx p hp hlp => ?_, ?_, ?_⟩
  · unfold upN at hx
    by_cases q : x = k
    · subst q; rw [if_pos rfl] at hx; cases hx; exact ⟨hdi, hik, by omega⟩
    · rw [if_neg q] at hx; exact b.f1 x n hx
  · unfold upN; rw [if_neg (fun e => hk2 e.symm)]; exact b.f2
  · unfold upN
    have := b.mem x
    by_cases q : x = k
    · subst q; simp
    · rw [if_neg q, ← this]; simp [q]
  · have e : proc ++ (h :: (r ++ [k])) = (proc ++ (h :: r)) ++ [k] := by simp
    rw [e, List.nodup_append]
    exact ⟨b.nd, by simp, fun x hx y hy => by simp at hy; subst hy; exact fun e => hkn (e ▸ hx)⟩
  · have := b.closed x hx p hp hlp
    unfold upN
    split
    · rfl
    · exact this
  · have e : h :: (r ++ [k]) = (h :: r) ++ [k] := by simp
    rw [e, List.pairwise_append]
    refine ⟨?_, by simp, fun x hx y hy => ?_⟩
    · refine (List.Pairwise.imp_of_mem ?_ b.lev)
      intro x y hx hy hxy
      rw [oldr x hx, oldr y hy]; exact hxy
    · simp at hy; subst hy
      rw [oldr x hx, e1]
      have := b.span h (by simp) x hx
      rw [hd] at this
      simpa using this
  · intro y hy x hx
    simp at hy; subst hy
    rw [oldr h (by simp), hd]
    have hx' : x ∈ h :: r ∨ x = k := by simpa [or_assoc] using hx
    rcases hx' with q | q
    · rw [oldr x q]; have := b.span h (by simp) x q; rw [hd] at this; exact this
    · subst q; rw [e1]; simp
/-- the head is done -/
theorem Bf.pop {h : Nat} {r : List Nat} (b : Bf L i j far proc (h :: r)) (hc : ∀ p, i ≤ p → L p h → (far p).isSome = true) : Bf L i j far (proc ++ [h]) r where
  f1 := b.f1
  f2 := b.f2
  mem := fun k => by have := b.mem k; simp only [List.append_assoc, List.singleton_append]; exact this
  nd := by have := b.nd; simp only [List.append_assoc, List.singleton_append]; exact this
  closed := fun k hk => by
    rcases List.mem_append.1 hk with q | q
    · exact b.closed k q
    · simp at q; subst q; exact hc
  lev := (List.pairwise_cons.1 b.lev).2
  span := fun y hy x hx => by
    have hym : y ∈ r := List.mem_of_mem_head? hy
    have h1 := b.span h (by simp) x (by simp [hx])
    have h2 := (List.pairwise_cons.1 b.lev).1 y hym
    omega
/-- all done: all are met that lead there -/
theorem Bf.whole (b : Bf L i j far proc []) (hL : ∀ a b, L a b → a < b) : ∀ n k, i ≤ k → Di L j k n → far k = some n := by
  intro n
  induction n with
  | zero => intro k _ hk; have := hk.1; cases this; exact b.f2
  | succ n ih =>
    intro k hik hk
    obtain ⟨m, hl, hm⟩ := hk.next
    have hkm := hL _ _ hl
    have hmet := ih m (by omega) hm
    have hin := (b.mem m).2 (by rw [hmet]; rfl)
    rw [List.append_nil] at hin
    obtain ⟨n', hn'⟩ := Option.isSome_iff_exists.1 (b.closed m hin k hik hl)
    rw [hn', (b.f1 k n' hn').1.uniq hk]
theorem Bf.count (b : Bf L i j far proc todo) : proc.length + todo.length ≤ j + 1 := by
  have := nodup_bound (j + 1) (proc ++ todo) b.nd (fun x hx => by
    obtain ⟨n, hn⟩ := Option.isSome_iff_exists.1 ((b.mem x).1 hx)
    have := (b.f1 x n hn).2.2
    omega)
  rw [List.length_append] at this
  exact this
end
end Go.Vc
