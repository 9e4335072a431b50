/- abreastref20: Past, Chain. -/
import Derived.Test.YtkgjibhbhddckaaQClChains39
namespace Go.Vc
open Go Go.Proofs
set_option maxRecDepth 10000
variable {w : World}
def il (f : Nat → Int) (n : Nat) : List Value := (List.range n).map fun i => I (f i)
def upI (f : Nat → Int) (k : Nat) (b : Int) (i : Nat) : Int := if i = k then b else f i
theorem il_len (f : Nat → Int) (n : Nat) : (il f n).length = n := by simp [il]
theorem il_get (f : Nat → Int) {n i : Nat} (h : i < n) : (il f n)[i]? = some (I (f i)) := by simp [il, h]
theorem il_set (f : Nat → Int) (n i : Nat) (b : Int) : (il f n).set i (I b) = il (upI f i b) n := by
  apply List.ext_getElem?
  intro j
  by_cases hj : j < n
  · rw [il_get _ hj]
    by_cases hij : i = j
    · subst hij
      rw [List.getElem?_set_self (by rw [il_len]; exact hj)]; simp [upI]
    · rw [List.getElem?_set_ne hij, il_get _ hj]
      simp [upI, show ¬ j = i from fun h => hij h.symm]
  · rw [List.getElem?_eq_none (by rw [List.length_set, il_len]; omega), List.getElem?_eq_none (by rw [il_len]; omega)]
def Val (L : Nat → Nat → Prop) (j k : Nat) (x : Int) : Prop := (∃ n, Di L j k n ∧ x = (n : Int)) ∨ ((∀ n, ¬ Di L j k n) ∧ x = 1073741824)
def Part (L : Nat → Nat → Prop) (j k x : Nat) (y : Int) : Prop := (∀ m n, m < x → L k m → Di L j m n → y ≤ (n : Int) + 1) ∧ (y = 1073741824 ∨ ∃ m n, m < x ∧ L k m ∧ Di L j m n ∧ y = (n : Int) + 1)
section
variable {L : Nat → Nat → Prop} {j : Nat}
theorem Part.val {k : Nat} {y : Int} (h : Part L j k (j + 1) y) (hL : ∀ a b, L a b → a < b) (hk : k < j) (hj : j ≤ 4096) : Val L j k y := by
  have hle : ∀ {a n : Nat}, Di L j a n → a + n ≤ j := fun h => h.1.le hL
  have hbelow : ∀ d, Di L j k d → ∃ d' m, d = d' + 1 ∧ L k m ∧ Di L j m d' := fun d hd => by
    cases d with
    | zero => have := hd.1; cases this; omega
    | succ d' => obtain ⟨m, h1, h2⟩ := hd.next; exact ⟨d', m, rfl, h1, h2⟩
  rcases h.2 with hy | ⟨m, n, h1, h2, h3, h4⟩
  · refine .inr ⟨fun d hd => ?_, hy⟩
    obtain ⟨d', m, rfl, hm1, hm2⟩ := hbelow d hd
    have q := hle hm2
    have := h.1 m d' (by omega) hm1 hm2
    omega
  · refine .inl ⟨n + 1, ⟨.succ h2 h3.1, fun d hd hp => ?_⟩, by omega⟩
    obtain ⟨d2, hd2, hdi⟩ := hp.di
    obtain ⟨d', m', rfl, hm1, hm2⟩ := hbelow d2 hdi
    have q := hle hm2
    have := h.1 m' d' (by omega) hm1 hm2
    omega
theorem Part.start {k x : Nat} (hL : ∀ a b, L a b → a < b) (hx : x ≤ k + 1) : Part L j k x 1073741824 :=
  ⟨fun m n h1 h2 _ => by have := hL _ _ h2; omega, .inl rfl⟩
theorem Part.skip {k x : Nat} {y : Int} (h : Part L j k x y) (hn : ∀ n, L k x → Di L j x n → y ≤ (n : Int) + 1) : Part L j k (x + 1) y := by
  refine ⟨fun m n h1 h2 h3 => ?_, ?_⟩
  · by_cases q : m = x
    · subst q; exact hn n h2 h3
    · exact h.1 m n (by omega) h2 h3
  · rcases h.2 with hy | ⟨m, n, h1, h2, h3, h4⟩
    · exact .inl hy
    · exact .inr ⟨m, n, by omega, h2, h3, h4⟩
theorem Part.take {k x n : Nat} {y : Int} (h : Part L j k x y) (hl : L k x) (hd : Di L j x n) (hlt : (n : Int) + 1 < y) : Part L j k (x + 1) ((n : Int) + 1) := by
  refine ⟨fun m n' h1 h2 h3 => ?_, .inr ⟨x, n, by omega, hl, hd, rfl⟩⟩
  by_cases q : m = x
  · subst q; have := hd.uniq h3; omega
  · have := h.1 m n' (by omega) h2 h3; omega
end
section
variable {g : RrG} {E : List Ev} {R : List Int}
theorem any_take_succ {p : Int → Bool} {ks : List Int} {k : Nat} {x : Int} (h : ks[k]? = some x) : (ks.take (k + 1)).any p = ((ks.take k).any p || p x) := by
  rw [List.take_add_one, h, List.any_append]; simp
theorem rPast_ret (h : RrAt w g E R) {ad : Option Addr} {ks : List Int} {cap : Nat} (hr : ReadS w ad (ks.map I)) (hl : ks.length ≤ 1048576) :
    Ret Try.prog 13 [ptr g.p, .slice ad ks.length cap] w (fun v w' => ∃ ad' cap', v = .slice ad' (pastL E R ks E.length).length cap' ∧ NewS w 3 w' ad' (pastL E R ks E.length).length cap' ((pastL E R ks E.length).map I)) := by
  have hsm := h.small
  refine enter Try.call13 Try.func13 rfl rfl rfl rfl ?_
  (repeat first|refine zA ?_|refine zB ?_|refine zC ?_|refine zD ?_|refine zE ?_|refine zg ?_|refine zo rfl rfl (by first|exact trivial|(simp only[AllP];omega)|(simp(discharger:=omega)only[AllP,cA,cB];omega)|(simp only[AllP,cC,cD,cE,cF,cG];omega)) ?_|refine zn ?_|refine zb ?_|refine ze rfl ?_|refine zr ?_|refine zk ?_|refine zT rfl rfl rfl ?_|refine zU rfl rfl rfl ?_|refine zV rfl rfl rfl ?_|refine zf rfl ?_|refine zt rfl ?_)
  refine r_loop (α := Nat × Option Addr × Nat) [0, 1, 5, 6] (fun x => [ptr g.p, .slice ad ks.length cap, .slice x.2.1 (pastL E R ks x.1).length x.2.2, I x.1]) (fun x wc => NewS w 3 wc x.2.1 (pastL E R ks x.1).length x.2.2 ((pastL E R ks x.1).map I) ∧ x.1 ≤ E.length) (fun x => E.length - x.1) (0, none, 0) rfl ⟨⟨ownS_nil _ _ _, Kp.refl _ _, by simp [blkOf]⟩, by omega⟩ ?_
  rintro ⟨i, adx, capx⟩ e wc ⟨hn, hi⟩
  dsimp only at hn hi ⊢
  have hpl := pastL_len E R ks i
  have kc := hn.kp
  have hc := h.kp0 kc
  have hrc := hr.kp kc (by simp)
  (repeat first|refine zA ?_|refine zB ?_|refine zC ?_|refine zD ?_|refine zE ?_|refine zg ?_|refine zo rfl rfl (by first|exact trivial|(simp only[AllP];omega)|(simp(discharger:=omega)only[AllP,cA,cB];omega)|(simp only[AllP,cC,cD,cE,cF,cG];omega)) ?_|refine zn ?_|refine zb ?_|refine ze rfl ?_|refine zr ?_|refine zk ?_|refine zT rfl rfl rfl ?_|refine zU rfl rfl rfl ?_|refine zV rfl rfl rfl ?_|refine zf rfl ?_|refine zt rfl ?_)
  refine o_call (rLen_ret hc.toRrB) rfl rfl rfl ?_
  rintro v w1 ⟨rfl, rfl⟩
  (repeat first|refine zA ?_|refine zB ?_|refine zC ?_|refine zD ?_|refine zE ?_|refine zg ?_|refine zo rfl rfl (by first|exact trivial|(simp only[AllP];omega)|(simp(discharger:=omega)only[AllP,cA,cB];omega)|(simp only[AllP,cC,cD,cE,cF,cG];omega)) ?_|refine zn ?_|refine zb ?_|refine ze rfl ?_|refine zr ?_|refine zk ?_|refine zT rfl rfl rfl ?_|refine zU rfl rfl rfl ?_|refine zV rfl rfl rfl ?_|refine zf rfl ?_|refine zt rfl ?_)
  refine r_if rfl (fun hci => ?_) (fun hci => ?_)
  · (repeat first|refine zA ?_|refine zB ?_|refine zC ?_|refine zD ?_|refine zE ?_|refine zg ?_|refine zo rfl rfl (by first|exact trivial|(simp only[AllP];omega)|(simp(discharger:=omega)only[AllP,cA,cB];omega)|(simp only[AllP,cC,cD,cE,cF,cG];omega)) ?_|refine zn ?_|refine zb ?_|refine ze rfl ?_|refine zr ?_|refine zk ?_|refine zT rfl rfl rfl ?_|refine zU rfl rfl rfl ?_|refine zV rfl rfl rfl ?_|refine zf rfl ?_|refine zt rfl ?_)
    refine r_loop (α := Nat) [0, 1, 5, 6, 7, 8] (fun k => [ptr g.p, .slice ad ks.length cap, .slice adx (pastL E R ks i).length capx, I i, .bool ((ks.take k).any fun k => pastB E R i k), I k]) (fun k w' => w1 = w' ∧ k ≤ ks.length) (fun k => ks.length - k) 0 rfl ⟨rfl, by omega⟩ ?_
    rintro k e _ ⟨rfl, hk⟩
    (repeat first|refine zA ?_|refine zB ?_|refine zC ?_|refine zD ?_|refine zE ?_|refine zg ?_|refine zo rfl rfl (by first|exact trivial|(simp only[AllP];omega)|(simp(discharger:=omega)only[AllP,cA,cB];omega)|(simp only[AllP,cC,cD,cE,cF,cG];omega)) ?_|refine zn ?_|refine zb ?_|refine ze rfl ?_|refine zr ?_|refine zk ?_|refine zT rfl rfl rfl ?_|refine zU rfl rfl rfl ?_|refine zV rfl rfl rfl ?_|refine zf rfl ?_|refine zt rfl ?_)
    refine r_if rfl (fun hck => ?_) (fun hck => ?_)
    · have hlt : k < ks.length := by omega
      obtain ⟨x, hx⟩ : ∃ x, ks[k]? = some x := ⟨_, List.getElem?_eq_getElem hlt⟩
      have hsu := any_take_succ (p := fun k => pastB E R i k) hx
      obtain ⟨b, off, rfl, _, hcell⟩ := hrc.at_ (by simp; omega)
      have hcx := hcell k _ (by rw [List.getElem?_map, hx]; rfl)
      (repeat first|refine zA ?_|refine zB ?_|refine zC ?_|refine zD ?_|refine zE ?_|refine zg ?_|refine zo rfl rfl (by first|exact trivial|(simp only[AllP];omega)|(simp(discharger:=omega)only[AllP,cA,cB];omega)|(simp only[AllP,cC,cD,cE,cF,cG];omega)) ?_|refine zn ?_|refine zb ?_|refine ze rfl ?_|refine zr ?_|refine zk ?_|refine zT rfl rfl rfl ?_|refine zU rfl rfl rfl ?_|refine zV rfl rfl rfl ?_|refine zf rfl ?_|refine zt rfl ?_)
      cases hin : (ks.take k).any fun k => pastB E R i k with
      | true =>
        rw [hin, Bool.true_or] at hsu
        (repeat first|refine zA ?_|refine zB ?_|refine zC ?_|refine zD ?_|refine zE ?_|refine zg ?_|refine zo rfl rfl (by first|exact trivial|(simp only[AllP];omega)|(simp(discharger:=omega)only[AllP,cA,cB];omega)|(simp only[AllP,cC,cD,cE,cF,cG];omega)) ?_|refine zn ?_|refine zb ?_|refine ze rfl ?_|refine zr ?_|refine zk ?_|refine zT rfl rfl rfl ?_|refine zU rfl rfl rfl ?_|refine zV rfl rfl rfl ?_|refine zf rfl ?_|refine zt rfl ?_)
        exact ⟨k + 1, by rw [hsu]; rfl, ⟨rfl, by omega⟩, by omega⟩
      | false =>
        rw [hin, Bool.false_or] at hsu
        (repeat first|refine zA ?_|refine zB ?_|refine zC ?_|refine zD ?_|refine zE ?_|refine zg ?_|refine zo rfl rfl (by first|exact trivial|(simp only[AllP];omega)|(simp(discharger:=omega)only[AllP,cA,cB];omega)|(simp only[AllP,cC,cD,cE,cF,cG];omega)) ?_|refine zn ?_|refine zb ?_|refine ze rfl ?_|refine zr ?_|refine zk ?_|refine zT rfl rfl rfl ?_|refine zU rfl rfl rfl ?_|refine zV rfl rfl rfl ?_|refine zf rfl ?_|refine zt rfl ?_)
        refine o_loadc (v := I x) rfl hcx rfl rfl rfl rfl ?_
        (repeat first|refine zA ?_|refine zB ?_|refine zC ?_|refine zD ?_|refine zE ?_|refine zg ?_|refine zo rfl rfl (by first|exact trivial|(simp only[AllP];omega)|(simp(discharger:=omega)only[AllP,cA,cB];omega)|(simp only[AllP,cC,cD,cE,cF,cG];omega)) ?_|refine zn ?_|refine zb ?_|refine ze rfl ?_|refine zr ?_|refine zk ?_|refine zT rfl rfl rfl ?_|refine zU rfl rfl rfl ?_|refine zV rfl rfl rfl ?_|refine zf rfl ?_|refine zt rfl ?_)
        by_cases hxi : x = i
        · refine o_is true 9 false rfl rfl rfl (decide_eq_true hxi) ?_
          (repeat first|refine zA ?_|refine zB ?_|refine zC ?_|refine zD ?_|refine zE ?_|refine zg ?_|refine zo rfl rfl (by first|exact trivial|(simp only[AllP];omega)|(simp(discharger:=omega)only[AllP,cA,cB];omega)|(simp only[AllP,cC,cD,cE,cF,cG];omega)) ?_|refine zn ?_|refine zb ?_|refine ze rfl ?_|refine zr ?_|refine zk ?_|refine zT rfl rfl rfl ?_|refine zU rfl rfl rfl ?_|refine zV rfl rfl rfl ?_|refine zf rfl ?_|refine zt rfl ?_)
          have e1 : pastB E R i x = true := by unfold pastB; rw [decide_eq_true hxi]; rfl
          exact ⟨k + 1, by rw [hsu, e1]; rfl, ⟨rfl, by omega⟩, by omega⟩
        · refine o_is false 9 false rfl rfl rfl (decide_eq_false hxi) ?_
          (repeat first|refine zA ?_|refine zB ?_|refine zC ?_|refine zD ?_|refine zE ?_|refine zg ?_|refine zo rfl rfl (by first|exact trivial|(simp only[AllP];omega)|(simp(discharger:=omega)only[AllP,cA,cB];omega)|(simp only[AllP,cC,cD,cE,cF,cG];omega)) ?_|refine zn ?_|refine zb ?_|refine ze rfl ?_|refine zr ?_|refine zk ?_|refine zT rfl rfl rfl ?_|refine zU rfl rfl rfl ?_|refine zV rfl rfl rfl ?_|refine zf rfl ?_|refine zt rfl ?_)
          refine o_loadc (v := I x) rfl hcx rfl rfl rfl rfl ?_
          (repeat first|refine zA ?_|refine zB ?_|refine zC ?_|refine zD ?_|refine zE ?_|refine zg ?_|refine zo rfl rfl (by first|exact trivial|(simp only[AllP];omega)|(simp(discharger:=omega)only[AllP,cA,cB];omega)|(simp only[AllP,cC,cD,cE,cF,cG];omega)) ?_|refine zn ?_|refine zb ?_|refine ze rfl ?_|refine zr ?_|refine zk ?_|refine zT rfl rfl rfl ?_|refine zU rfl rfl rfl ?_|refine zV rfl rfl rfl ?_|refine zf rfl ?_|refine zt rfl ?_)
          refine o_call (rHappens_ret hc i x) rfl rfl rfl ?_
          rintro v w2 ⟨rfl, rfl⟩
          (repeat first|refine zA ?_|refine zB ?_|refine zC ?_|refine zD ?_|refine zE ?_|refine zg ?_|refine zo rfl rfl (by first|exact trivial|(simp only[AllP];omega)|(simp(discharger:=omega)only[AllP,cA,cB];omega)|(simp only[AllP,cC,cD,cE,cF,cG];omega)) ?_|refine zn ?_|refine zb ?_|refine ze rfl ?_|refine zr ?_|refine zk ?_|refine zT rfl rfl rfl ?_|refine zU rfl rfl rfl ?_|refine zV rfl rfl rfl ?_|refine zf rfl ?_|refine zt rfl ?_)
          have e1 : pastB E R i x = befI E R i x := by unfold pastB; rw [decide_eq_false hxi]; rfl
          exact ⟨k + 1, by rw [hsu, e1]; rfl, ⟨rfl, by omega⟩, by omega⟩
    · have hkl : k = ks.length := by omega
      subst hkl
      rw [List.take_length]
      have hsucc := pastL_succ E R ks i
      (repeat first|refine zA ?_|refine zB ?_|refine zC ?_|refine zD ?_|refine zE ?_|refine zg ?_|refine zo rfl rfl (by first|exact trivial|(simp only[AllP];omega)|(simp(discharger:=omega)only[AllP,cA,cB];omega)|(simp only[AllP,cC,cD,cE,cF,cG];omega)) ?_|refine zn ?_|refine zb ?_|refine ze rfl ?_|refine zr ?_|refine zk ?_|refine zT rfl rfl rfl ?_|refine zU rfl rfl rfl ?_|refine zV rfl rfl rfl ?_|refine zf rfl ?_|refine zt rfl ?_)
      cases hany : ks.any (fun k => pastB E R i k) with
      | false =>
        rw [hany, if_neg (by simp), List.append_nil] at hsucc
        refine r_no rfl rfl ?_
        (repeat first|refine zA ?_|refine zB ?_|refine zC ?_|refine zD ?_|refine zE ?_|refine zg ?_|refine zo rfl rfl (by first|exact trivial|(simp only[AllP];omega)|(simp(discharger:=omega)only[AllP,cA,cB];omega)|(simp only[AllP,cC,cD,cE,cF,cG];omega)) ?_|refine zn ?_|refine zb ?_|refine ze rfl ?_|refine zr ?_|refine zk ?_|refine zT rfl rfl rfl ?_|refine zU rfl rfl rfl ?_|refine zV rfl rfl rfl ?_|refine zf rfl ?_|refine zt rfl ?_)
        exact ⟨(i + 1, adx, capx), by dsimp only; rw [hsucc]; rfl, ⟨by dsimp only; rw [hsucc]; exact hn, by dsimp only; omega⟩, by dsimp only; omega⟩
      | true =>
        rw [hany, if_pos rfl] at hsucc
        refine r_yes rfl rfl ?_
        (repeat first|refine zA ?_|refine zB ?_|refine zC ?_|refine zD ?_|refine zE ?_|refine zg ?_|refine zo rfl rfl (by first|exact trivial|(simp only[AllP];omega)|(simp(discharger:=omega)only[AllP,cA,cB];omega)|(simp only[AllP,cC,cD,cE,cF,cG];omega)) ?_|refine zn ?_|refine zb ?_|refine ze rfl ?_|refine zr ?_|refine zk ?_|refine zT rfl rfl rfl ?_|refine zU rfl rfl rfl ?_|refine zV rfl rfl rfl ?_|refine zf rfl ?_|refine zt rfl ?_)
        refine o_buildSlice [I (i : Int)] rfl (by simp [Value.oneCell']) rfl (by decide) (by decide) rfl rfl rfl rfl rfl ?_
        intro b6 w6 hb6 hu6
        have k6 : Kp [] w1 w6 := hu6.kp [] (.inr (by omega))
        refine o_append1 rfl rfl (hn.own.kp k6 (by simp)) hu6.blk rfl rfl rfl rfl (by simp only [maxLen]; omega) (by omega) rfl rfl ?_
        intro ad7 cap7 w7 ho7 k7 hn7
        have z6 := k6.size
        have hzc := kc.size
        (repeat first|refine zA ?_|refine zB ?_|refine zC ?_|refine zD ?_|refine zE ?_|refine zg ?_|refine zo rfl rfl (by first|exact trivial|(simp only[AllP];omega)|(simp(discharger:=omega)only[AllP,cA,cB];omega)|(simp only[AllP,cC,cD,cE,cF,cG];omega)) ?_|refine zn ?_|refine zb ?_|refine ze rfl ?_|refine zr ?_|refine zk ?_|refine zT rfl rfl rfl ?_|refine zU rfl rfl rfl ?_|refine zV rfl rfl rfl ?_|refine zf rfl ?_|refine zt rfl ?_)
        refine ⟨(i + 1, ad7, cap7), by dsimp only; rw [hsucc, List.length_append]; rfl, ⟨?_, by dsimp only; omega⟩, by dsimp only; omega⟩
        dsimp only
        rw [hsucc, List.length_append, List.map_append]
        exact ⟨ho7, (kc.trans k6).since k7 hn.new, fun b hb => by
          rcases hn7 b hb with q | q
          · exact hn.new b q
          · omega⟩
  · have hin : i = E.length := by omega
    subst hin
    (repeat first|refine zA ?_|refine zB ?_|refine zC ?_|refine zD ?_|refine zE ?_|refine zg ?_|refine zo rfl rfl (by first|exact trivial|(simp only[AllP];omega)|(simp(discharger:=omega)only[AllP,cA,cB];omega)|(simp only[AllP,cC,cD,cE,cF,cG];omega)) ?_|refine zn ?_|refine zb ?_|refine ze rfl ?_|refine zr ?_|refine zk ?_|refine zT rfl rfl rfl ?_|refine zU rfl rfl rfl ?_|refine zV rfl rfl rfl ?_|refine zf rfl ?_|refine zt rfl ?_)
    exact ⟨_, rfl, adx, capx, rfl, hn⟩
set_option maxHeartbeats 6400000 in
theorem rChain_ret (h : RrAt w g E R) (i j : Int) : Ret Try.prog 16 [ptr g.p, I i, I j] w (fun v w' =>
    (befI E R i j = false ∧ v = .slice none 0 0 ∧ w' = w) ∨
    (befI E R i j = true ∧ ∃ l ad cap, ChainR (lk E R) j.toNat i.toNat l ∧ v = .slice ad l.length cap ∧ NewS w 3 w' ad l.length cap (l.map fun n : Nat => I n))) := by
  have hsm := h.small
  have hL : ∀ a b, lk E R a b → a < b := fun a b q => (lk_lt q).1
  refine enter Try.call16 Try.func16 rfl rfl rfl rfl ?_
  (repeat first|refine zA ?_|refine zB ?_|refine zC ?_|refine zD ?_|refine zE ?_|refine zg ?_|refine zo rfl rfl (by first|exact trivial|(simp only[AllP];omega)|(simp(discharger:=omega)only[AllP,cA,cB];omega)|(simp only[AllP,cC,cD,cE,cF,cG];omega)) ?_|refine zn ?_|refine zb ?_|refine ze rfl ?_|refine zr ?_|refine zk ?_|refine zT rfl rfl rfl ?_|refine zU rfl rfl rfl ?_|refine zV rfl rfl rfl ?_|refine zf rfl ?_|refine zt rfl ?_)
  refine o_call (rHappens_ret h i j) rfl rfl rfl ?_
  rintro v w1 ⟨rfl, rfl⟩
  (repeat first|refine zA ?_|refine zB ?_|refine zC ?_|refine zD ?_|refine zE ?_|refine zg ?_|refine zo rfl rfl (by first|exact trivial|(simp only[AllP];omega)|(simp(discharger:=omega)only[AllP,cA,cB];omega)|(simp only[AllP,cC,cD,cE,cF,cG];omega)) ?_|refine zn ?_|refine zb ?_|refine ze rfl ?_|refine zr ?_|refine zk ?_|refine zT rfl rfl rfl ?_|refine zU rfl rfl rfl ?_|refine zV rfl rfl rfl ?_|refine zf rfl ?_|refine zt rfl ?_)
  cases hb : befI E R i j with
  | false =>
    refine r_yes rfl rfl ?_
    (repeat first|refine zA ?_|refine zB ?_|refine zC ?_|refine zD ?_|refine zE ?_|refine zg ?_|refine zo rfl rfl (by first|exact trivial|(simp only[AllP];omega)|(simp(discharger:=omega)only[AllP,cA,cB];omega)|(simp only[AllP,cC,cD,cE,cF,cG];omega)) ?_|refine zn ?_|refine zb ?_|refine ze rfl ?_|refine zr ?_|refine zk ?_|refine zT rfl rfl rfl ?_|refine zU rfl rfl rfl ?_|refine zV rfl rfl rfl ?_|refine zf rfl ?_|refine zt rfl ?_)
    exact ⟨_, rfl, .inl ⟨rfl, rfl, rfl⟩⟩
  | true =>
  refine r_no rfl rfl ?_
  have hch0 := (befI_iff.1 hb)
  have hlt0 := befI_lt hb
  obtain ⟨i, rfl⟩ : ∃ a : Nat, i = a := ⟨i.toNat, by omega⟩
  obtain ⟨j, rfl⟩ : ∃ a : Nat, j = a := ⟨j.toNat, by omega⟩
  simp only [Int.toNat_natCast] at hch0 ⊢
  have hch := hch0.2.2
  have hij : i < j := by omega
  have hjE : j < E.length := by omega
  (repeat first|refine zA ?_|refine zB ?_|refine zC ?_|refine zD ?_|refine zE ?_|refine zg ?_|refine zo rfl rfl (by first|exact trivial|(simp only[AllP];omega)|(simp(discharger:=omega)only[AllP,cA,cB];omega)|(simp only[AllP,cC,cD,cE,cF,cG];omega)) ?_|refine zn ?_|refine zb ?_|refine ze rfl ?_|refine zr ?_|refine zk ?_|refine zT rfl rfl rfl ?_|refine zU rfl rfl rfl ?_|refine zV rfl rfl rfl ?_|refine zf rfl ?_|refine zt rfl ?_)
  refine o_makeN (len := (j : Int) + 1) (cap := (j : Int) + 1) (kl := .i64) (kc := .i64) rfl rfl rfl rfl rfl (by omega) (by omega) (by omega) (by omega) rfl rfl ?_
  intro fb w2 hfb hu2
  have ej1 : ((j : Int) + 1).toNat = j + 1 := by omega
  rw [ej1] at hu2 ⊢
  have k2 : Kp [] w1 w2 := hu2.kp [] (.inr (by omega))
  have hF2 : Blk w2 fb (il (fun _ => 0) (j + 1)) 3 := by
    have := hu2.blk
    have e1 : (List.replicate (j + 1) [Value.int .i64 0]).flatten = il (fun _ => 0) (j + 1) := by
      have e2 : (List.replicate (j + 1) [Value.int .i64 0]).flatten = List.replicate (j + 1) (Value.int .i64 0) := by simp
      rw [e2]
      apply List.ext_getElem?
      intro k
      rw [List.getElem?_replicate]
      by_cases hk : k < j + 1
      · rw [if_pos hk, il_get _ hk]
      · rw [if_neg hk, List.getElem?_eq_none (by rw [il_len]; omega)]
    rw [← e1]; exact this
  have z2 := hu2.lt
  (repeat first|refine zA ?_|refine zB ?_|refine zC ?_|refine zD ?_|refine zE ?_|refine zg ?_|refine zo rfl rfl (by first|exact trivial|(simp only[AllP];omega)|(simp(discharger:=omega)only[AllP,cA,cB];omega)|(simp only[AllP,cC,cD,cE,cF,cG];omega)) ?_|refine zn ?_|refine zb ?_|refine ze rfl ?_|refine zr ?_|refine zk ?_|refine zT rfl rfl rfl ?_|refine zU rfl rfl rfl ?_|refine zV rfl rfl rfl ?_|refine zf rfl ?_|refine zt rfl ?_)
  refine r_loop (α := Nat × (Nat → Int)) [0, 1, 2, 7, 8] (fun x => [ptr g.p, I i, I j, .slice (some ⟨fb, 0, none⟩) (j + 1) (j + 1), I ((x.1 : Int) - 1)]) (fun x wc => i ≤ x.1 ∧ x.1 ≤ j ∧ (∀ k, x.1 ≤ k → k ≤ j → Val (lk E R) j k (x.2 k)) ∧ Blk wc fb (il x.2 (j + 1)) 3 ∧ Kp [fb] w2 wc) (fun x => x.1) (j, fun _ => 0) rfl
    ⟨by dsimp only; omega, Nat.le_refl _, fun k h1 h2 => by dsimp only at h1; have : k = j := by omega
                                                            subst this; exact .inl ⟨0, Di.self, rfl⟩, hF2, Kp.refl _ _⟩ ?_
  rintro ⟨m, f⟩ e wc ⟨him, hmj, hval, hF, kc⟩
  dsimp only at him hmj hval hF ⊢
  have kw : Kp [] w1 wc := k2.since kc (by simp; omega)
  have hzc := kc.size
  (repeat first|refine zA ?_|refine zB ?_|refine zC ?_|refine zD ?_|refine zE ?_|refine zg ?_|refine zo rfl rfl (by first|exact trivial|(simp only[AllP];omega)|(simp(discharger:=omega)only[AllP,cA,cB];omega)|(simp only[AllP,cC,cD,cE,cF,cG];omega)) ?_|refine zn ?_|refine zb ?_|refine ze rfl ?_|refine zr ?_|refine zk ?_|refine zT rfl rfl rfl ?_|refine zU rfl rfl rfl ?_|refine zV rfl rfl rfl ?_|refine zf rfl ?_|refine zt rfl ?_)
  refine r_if rfl (fun hc => ?_) (fun hc => ?_)
  · obtain ⟨k, rfl⟩ : ∃ k, m = k + 1 := ⟨m - 1, by omega⟩
    have ek1 : ((k + 1 : Nat) : Int) - 1 = (k : Int) := by omega
    rw [ek1]
    have ek : Value.pointer (some ⟨fb, 0 + (k : Int).toNat, none⟩) = .pointer (some ⟨fb, k, none⟩) := by rw [Nat.zero_add, Int.toNat_natCast]
    (repeat first|refine zA ?_|refine zB ?_|refine zC ?_|refine zD ?_|refine zE ?_|refine zg ?_|refine zo rfl rfl (by first|exact trivial|(simp only[AllP];omega)|(simp(discharger:=omega)only[AllP,cA,cB];omega)|(simp only[AllP,cC,cD,cE,cF,cG];omega)) ?_|refine zn ?_|refine zb ?_|refine ze rfl ?_|refine zr ?_|refine zk ?_|refine zT rfl rfl rfl ?_|refine zU rfl rfl rfl ?_|refine zV rfl rfl rfl ?_|refine zf rfl ?_|refine zt rfl ?_)
    refine o_store (b := fb) (off := k) (v := I 1073741824) (c := none) ek hF (by rw [il_len]; omega) rfl rfl rfl rfl rfl rfl ?_
    intro w3 hu3
    have k3 : Kp [fb] wc w3 := hu3.kp _ (.inl (by simp))
    have hF3 := hu3.blk
    rw [il_set] at hF3
    have k23 := kc.trans k3
    (repeat first|refine zA ?_|refine zB ?_|refine zC ?_|refine zD ?_|refine zE ?_|refine zg ?_|refine zo rfl rfl (by first|exact trivial|(simp only[AllP];omega)|(simp(discharger:=omega)only[AllP,cA,cB];omega)|(simp only[AllP,cC,cD,cE,cF,cG];omega)) ?_|refine zn ?_|refine zb ?_|refine ze rfl ?_|refine zr ?_|refine zk ?_|refine zT rfl rfl rfl ?_|refine zU rfl rfl rfl ?_|refine zV rfl rfl rfl ?_|refine zf rfl ?_|refine zt rfl ?_)
    refine r_loop (α := Nat × (Nat → Int)) [0, 1, 2, 7, 8, 9] (fun x => [ptr g.p, I i, I j, .slice (some ⟨fb, 0, none⟩) (j + 1) (j + 1), I k, I x.1]) (fun x w' => k < x.1 ∧ x.1 ≤ j + 1 ∧ (∀ k', k < k' → k' ≤ j → Val (lk E R) j k' (x.2 k')) ∧ Part (lk E R) j k x.1 (x.2 k) ∧ Blk w' fb (il x.2 (j + 1)) 3 ∧ Kp [fb] w2 w') (fun x => j + 1 - x.1) (k + 1, upI f k 1073741824) rfl
      ⟨by dsimp only; omega, by dsimp only; omega, fun k' h1 h2 => by dsimp only [upI]; rw [if_neg (by omega)]; exact hval k' (by omega) h2, by dsimp only [upI]; rw [if_pos rfl]; exact Part.start hL (Nat.le_refl _), hF3, k23⟩ ?_
    rintro ⟨x, f⟩ e w4 ⟨hkx, hxj, hval, hpart, hF, k24⟩
    dsimp only at hkx hxj hval hpart hF ⊢
    have h4 := h.kp0 (k2.since k24 (by simp; omega))
    (repeat first|refine zA ?_|refine zB ?_|refine zC ?_|refine zD ?_|refine zE ?_|refine zg ?_|refine zo rfl rfl (by first|exact trivial|(simp only[AllP];omega)|(simp(discharger:=omega)only[AllP,cA,cB];omega)|(simp only[AllP,cC,cD,cE,cF,cG];omega)) ?_|refine zn ?_|refine zb ?_|refine ze rfl ?_|refine zr ?_|refine zk ?_|refine zT rfl rfl rfl ?_|refine zU rfl rfl rfl ?_|refine zV rfl rfl rfl ?_|refine zf rfl ?_|refine zt rfl ?_)
    refine r_if rfl (fun hcx => ?_) (fun hcx => ?_)
    · have hxle : x ≤ j := by omega
      have ex : Value.pointer (some ⟨fb, 0 + (x : Int).toNat, none⟩) = .pointer (some ⟨fb, x, none⟩) := by rw [Nat.zero_add, Int.toNat_natCast]
      have hvx := hval x hkx hxle
      have hfx : 0 ≤ f x ∧ f x ≤ 1073741824 := by
        rcases hvx with ⟨n, hn, e⟩ | ⟨_, e⟩
        · have := hn.1.le hL; omega
        · omega
      have hfk : 0 ≤ f k ∧ f k ≤ 1073741824 := by
        rcases hpart.2 with e | ⟨m', n, h1, h2, h3, e⟩
        · omega
        · have := h3.1.le hL; omega
      (repeat first|refine zA ?_|refine zB ?_|refine zC ?_|refine zD ?_|refine zE ?_|refine zg ?_|refine zo rfl rfl (by first|exact trivial|(simp only[AllP];omega)|(simp(discharger:=omega)only[AllP,cA,cB];omega)|(simp only[AllP,cC,cD,cE,cF,cG];omega)) ?_|refine zn ?_|refine zb ?_|refine ze rfl ?_|refine zr ?_|refine zk ?_|refine zT rfl rfl rfl ?_|refine zU rfl rfl rfl ?_|refine zV rfl rfl rfl ?_|refine zf rfl ?_|refine zt rfl ?_)
      refine r_seq ?_
      refine r_cut (α := Unit) [0, 1, 2, 7, 8, 9, 54] (fun _ => [ptr g.p, I i, I j, .slice (some ⟨fb, 0, none⟩) (j + 1) (j + 1), I k, I x, .bool (decide (lk E R k x) && decide (f x + 1 < f k))]) (fun _ w' => Kp [] w4 w') ?_ ?_
      · refine r_mix (fun w' => Kp [] w4 w') [(0, false), (1, false), (2, false), (3, true), (4, false), (5, false), (6, false), (7, false), (8, false), (9, false), (10, false), (11, false), (12, false), (13, false), (14, false), (15, false), (16, false)] follows_mixed (by kernel_rfl) (by kernel_rfl) (by kernel_rfl) ((Sm.drew w4).kp _) ?_
        have kd := (Sm.drew w4).kp []
        have h5 := h4.kp0 kd
        generalize ({ w4 with drawn := w4.drawn + 1 } : World) = wd at kd h5 ⊢
        (repeat first|refine xo rfl rfl (by first|exact trivial|(simp only[AllP];omega)|(simp(discharger:=omega)only[AllP,cA,cB];omega)|(simp only[AllP,cC,cD,cE,cF,cG];omega)) ?_|refine xn ?_|refine x_know rfl _ _ (some true) rfl rfl rfl ?_|refine x_know rfl _ _ (some false) rfl rfl rfl ?_|refine x_know rfl _ _ none rfl rfl rfl ?_)
        refine x_act rfl ?_
        refine o_call (rWhy_ret h5.toRrB k x) rfl rfl rfl ?_
        rintro v w6 ⟨rfl, k6⟩
        have kd6 := kd.trans k6
        refine o_nil ⟨.inr kd6, ?_⟩
        (repeat first|refine xo rfl rfl (by first|exact trivial|(simp only[AllP];omega)|(simp(discharger:=omega)only[AllP,cA,cB];omega)|(simp only[AllP,cC,cD,cE,cF,cG];omega)) ?_|refine xn ?_|refine x_know rfl _ _ (some true) rfl rfl rfl ?_|refine x_know rfl _ _ (some false) rfl rfl rfl ?_|refine x_know rfl _ _ none rfl rfl rfl ?_)
        by_cases hl : lk E R k x
        · refine x_is true rfl 5 true rfl rfl rfl (by simpa [lk] using hl) ?_
          (repeat first|refine xo rfl rfl (by first|exact trivial|(simp only[AllP];omega)|(simp(discharger:=omega)only[AllP,cA,cB];omega)|(simp only[AllP,cC,cD,cE,cF,cG];omega)) ?_|refine xn ?_|refine x_know rfl _ _ (some true) rfl rfl rfl ?_|refine x_know rfl _ _ (some false) rfl rfl rfl ?_|refine x_know rfl _ _ none rfl rfl rfl ?_)
          refine x_load (b := fb) (off := x) (v := I (f x)) rfl ex (fun w' h' => (h'.blk (by simp) hF).cell (il_get _ (by omega))) rfl rfl rfl rfl ?_
          (repeat first|refine xo rfl rfl (by first|exact trivial|(simp only[AllP];omega)|(simp(discharger:=omega)only[AllP,cA,cB];omega)|(simp only[AllP,cC,cD,cE,cF,cG];omega)) ?_|refine xn ?_|refine x_know rfl _ _ (some true) rfl rfl rfl ?_|refine x_know rfl _ _ (some false) rfl rfl rfl ?_|refine x_know rfl _ _ none rfl rfl rfl ?_)
          refine x_load (b := fb) (off := k) (v := I (f k)) rfl ek (fun w' h' => (h'.blk (by simp) hF).cell (il_get _ (by omega))) rfl rfl rfl rfl ?_
          (repeat first|refine xo rfl rfl (by first|exact trivial|(simp only[AllP];omega)|(simp(discharger:=omega)only[AllP,cA,cB];omega)|(simp only[AllP,cC,cD,cE,cF,cG];omega)) ?_|refine xn ?_|refine x_know rfl _ _ (some true) rfl rfl rfl ?_|refine x_know rfl _ _ (some false) rfl rfl rfl ?_|refine x_know rfl _ _ none rfl rfl rfl ?_)
          exact ⟨(), by rw [decide_eq_true hl]; rfl, kd6⟩
        · refine x_is false rfl 5 true rfl rfl rfl (by simpa [lk] using hl) ?_
          (repeat first|refine xo rfl rfl (by first|exact trivial|(simp only[AllP];omega)|(simp(discharger:=omega)only[AllP,cA,cB];omega)|(simp only[AllP,cC,cD,cE,cF,cG];omega)) ?_|refine xn ?_|refine x_know rfl _ _ (some true) rfl rfl rfl ?_|refine x_know rfl _ _ (some false) rfl rfl rfl ?_|refine x_know rfl _ _ none rfl rfl rfl ?_)
          exact ⟨(), by rw [decide_eq_false hl]; rfl, kd6⟩
      rintro _ e w6 k6
      have hF6 := k6.blk (by simp) hF
      have k26 := k24.trans (k6.mono (by simp))
      (repeat first|refine zA ?_|refine zB ?_|refine zC ?_|refine zD ?_|refine zE ?_|refine zg ?_|refine zo rfl rfl (by first|exact trivial|(simp only[AllP];omega)|(simp(discharger:=omega)only[AllP,cA,cB];omega)|(simp only[AllP,cC,cD,cE,cF,cG];omega)) ?_|refine zn ?_|refine zb ?_|refine ze rfl ?_|refine zr ?_|refine zk ?_|refine zT rfl rfl rfl ?_|refine zU rfl rfl rfl ?_|refine zV rfl rfl rfl ?_|refine zf rfl ?_|refine zt rfl ?_)
      by_cases hl : lk E R k x ∧ f x + 1 < f k
      · obtain ⟨hl1, hl2⟩ := hl
        refine r_yes rfl (by simp [hl1, hl2]) ?_
        obtain ⟨n, hn, hne⟩ : ∃ n, Di (lk E R) j x n ∧ f x = (n : Int) := by
          rcases hvx with q | ⟨_, q⟩
          · exact q
          · omega
        (repeat first|refine zA ?_|refine zB ?_|refine zC ?_|refine zD ?_|refine zE ?_|refine zg ?_|refine zo rfl rfl (by first|exact trivial|(simp only[AllP];omega)|(simp(discharger:=omega)only[AllP,cA,cB];omega)|(simp only[AllP,cC,cD,cE,cF,cG];omega)) ?_|refine zn ?_|refine zb ?_|refine ze rfl ?_|refine zr ?_|refine zk ?_|refine zT rfl rfl rfl ?_|refine zU rfl rfl rfl ?_|refine zV rfl rfl rfl ?_|refine zf rfl ?_|refine zt rfl ?_)
        refine o_load (b := fb) (off := x) (v := I (f x)) ex hF6 (il_get _ (by omega)) rfl rfl rfl rfl ?_
        (repeat first|refine zA ?_|refine zB ?_|refine zC ?_|refine zD ?_|refine zE ?_|refine zg ?_|refine zo rfl rfl (by first|exact trivial|(simp only[AllP];omega)|(simp(discharger:=omega)only[AllP,cA,cB];omega)|(simp only[AllP,cC,cD,cE,cF,cG];omega)) ?_|refine zn ?_|refine zb ?_|refine ze rfl ?_|refine zr ?_|refine zk ?_|refine zT rfl rfl rfl ?_|refine zU rfl rfl rfl ?_|refine zV rfl rfl rfl ?_|refine zf rfl ?_|refine zt rfl ?_)
        refine o_store (b := fb) (off := k) (v := I (f x + 1)) (c := none) ek hF6 (by rw [il_len]; omega) rfl rfl rfl rfl rfl rfl ?_
        intro w7 hu7
        have hF7 := hu7.blk
        rw [il_set] at hF7
        (repeat first|refine zA ?_|refine zB ?_|refine zC ?_|refine zD ?_|refine zE ?_|refine zg ?_|refine zo rfl rfl (by first|exact trivial|(simp only[AllP];omega)|(simp(discharger:=omega)only[AllP,cA,cB];omega)|(simp only[AllP,cC,cD,cE,cF,cG];omega)) ?_|refine zn ?_|refine zb ?_|refine ze rfl ?_|refine zr ?_|refine zk ?_|refine zT rfl rfl rfl ?_|refine zU rfl rfl rfl ?_|refine zV rfl rfl rfl ?_|refine zf rfl ?_|refine zt rfl ?_)
        refine ⟨(x + 1, upI f k (f x + 1)), rfl, ⟨by dsimp only; omega, by dsimp only; omega, fun k' h1 h2 => ?_, ?_, hF7, k26.trans (hu7.kp _ (.inl (by simp)))⟩, by dsimp only; omega⟩
        · dsimp only [upI]; rw [if_neg (by omega)]; exact hval k' h1 h2
        · dsimp only [upI]; rw [if_pos rfl, hne]
          exact hpart.take hl1 hn (by omega)
      · refine r_no rfl (by rw [Bool.and_eq_false_iff]; by_cases q : lk E R k x
                            · exact .inr (decide_eq_false fun r => hl ⟨q, r⟩)
                            · exact .inl (decide_eq_false q)) ?_
        (repeat first|refine zA ?_|refine zB ?_|refine zC ?_|refine zD ?_|refine zE ?_|refine zg ?_|refine zo rfl rfl (by first|exact trivial|(simp only[AllP];omega)|(simp(discharger:=omega)only[AllP,cA,cB];omega)|(simp only[AllP,cC,cD,cE,cF,cG];omega)) ?_|refine zn ?_|refine zb ?_|refine ze rfl ?_|refine zr ?_|refine zk ?_|refine zT rfl rfl rfl ?_|refine zU rfl rfl rfl ?_|refine zV rfl rfl rfl ?_|refine zf rfl ?_|refine zt rfl ?_)
        refine ⟨(x + 1, f), rfl, ⟨by dsimp only; omega, by dsimp only; omega, hval, ?_, hF6, k26⟩, by dsimp only; omega⟩
        dsimp only
        refine hpart.skip fun n h1 h2 => ?_
        have : ¬ f x + 1 < f k := fun q => hl ⟨h1, q⟩
        rcases hvx with ⟨n', hn', e⟩ | ⟨hno, _⟩
        · have := hn'.uniq h2; omega
        · exact absurd h2 (hno n)
    · have hxe : x = j + 1 := by omega
      subst hxe
      (repeat first|refine zA ?_|refine zB ?_|refine zC ?_|refine zD ?_|refine zE ?_|refine zg ?_|refine zo rfl rfl (by first|exact trivial|(simp only[AllP];omega)|(simp(discharger:=omega)only[AllP,cA,cB];omega)|(simp only[AllP,cC,cD,cE,cF,cG];omega)) ?_|refine zn ?_|refine zb ?_|refine ze rfl ?_|refine zr ?_|refine zk ?_|refine zT rfl rfl rfl ?_|refine zU rfl rfl rfl ?_|refine zV rfl rfl rfl ?_|refine zf rfl ?_|refine zt rfl ?_)
      refine ⟨(k, f), rfl, ⟨by dsimp only; omega, by dsimp only; omega, fun k' h1 h2 => ?_, hF, k24⟩, by dsimp only; omega⟩
      dsimp only at h1 ⊢
      by_cases q : k' = k
      · subst q; exact hpart.val hL (by omega) (by omega)
      · exact hval k' (by omega) h2
  · have hmi : m = i := by omega
    subst hmi
    obtain ⟨n0, hn0⟩ := hch.pn
    obtain ⟨d0, _, hd0⟩ := hn0.di
    have hvd : ∀ k d, m ≤ k → k ≤ j → Di (lk E R) j k d → f k = (d : Int) := fun k d h1 h2 hd => by
      rcases hval k h1 h2 with ⟨n, hn, e⟩ | ⟨hno, _⟩
      · rw [e, hn.uniq hd]
      · exact absurd hd (hno d)
    have hfr : ∀ k, m ≤ k → k ≤ j → 0 ≤ f k ∧ f k ≤ 1073741824 := fun k h1 h2 => by
      rcases hval k h1 h2 with ⟨n, hn, e⟩ | ⟨_, e⟩
      · have := hn.1.le hL; omega
      · omega
    (repeat first|refine zA ?_|refine zB ?_|refine zC ?_|refine zD ?_|refine zE ?_|refine zg ?_|refine zo rfl rfl (by first|exact trivial|(simp only[AllP];omega)|(simp(discharger:=omega)only[AllP,cA,cB];omega)|(simp only[AllP,cC,cD,cE,cF,cG];omega)) ?_|refine zn ?_|refine zb ?_|refine ze rfl ?_|refine zr ?_|refine zk ?_|refine zT rfl rfl rfl ?_|refine zU rfl rfl rfl ?_|refine zV rfl rfl rfl ?_|refine zf rfl ?_|refine zt rfl ?_)
    refine o_buildSlice [I (m : Int)] rfl (by simp [Value.oneCell']) rfl (by decide) (by decide) rfl rfl rfl rfl rfl ?_
    intro cb w5 hcb hu5
    have k5 : Kp [] wc w5 := hu5.kp [] (.inr (by omega))
    have hF5 := k5.blk (by simp) hF
    have hN5 : NewS wc 3 w5 (some ⟨cb, 0, none⟩) ([] ++ [m]).length 1 (([] ++ [m]).map fun n : Nat => I n) := ⟨⟨rfl, rfl, rfl, by simp, by simp [maxLen], [], by simpa using hu5.blk, by simp⟩, k5, fun b hb => by simp [blkOf] at hb; omega⟩
    (repeat first|refine zA ?_|refine zB ?_|refine zC ?_|refine zD ?_|refine zE ?_|refine zg ?_|refine zo rfl rfl (by first|exact trivial|(simp only[AllP];omega)|(simp(discharger:=omega)only[AllP,cA,cB];omega)|(simp only[AllP,cC,cD,cE,cF,cG];omega)) ?_|refine zn ?_|refine zb ?_|refine ze rfl ?_|refine zr ?_|refine zk ?_|refine zT rfl rfl rfl ?_|refine zU rfl rfl rfl ?_|refine zV rfl rfl rfl ?_|refine zf rfl ?_|refine zt rfl ?_)
    refine r_loop (α := List Nat × Nat × Option Addr × Nat) [0, 2, 7, 10, 11] (fun x => [ptr g.p, I j, .slice (some ⟨fb, 0, none⟩) (j + 1) (j + 1), .slice x.2.2.1 (x.1 ++ [x.2.1]).length x.2.2.2, I x.2.1])
      (fun x w' => NewS wc 3 w' x.2.2.1 (x.1 ++ [x.2.1]).length x.2.2.2 ((x.1 ++ [x.2.1]).map fun n : Nat => I n) ∧ Blk w' fb (il f (j + 1)) 3 ∧ m ≤ x.2.1 ∧ x.2.1 ≤ j ∧ x.1.length ≤ x.2.1 ∧ (∃ d, Di (lk E R) j x.2.1 d) ∧ ∀ l, ChainR (lk E R) j x.2.1 l → ChainR (lk E R) j m (x.1 ++ l))
      (fun x => j - x.2.1) ([], m, some ⟨cb, 0, none⟩, 1) rfl ⟨hN5, hF5, Nat.le_refl _, by dsimp only; omega, by simp, ⟨d0, hd0⟩, fun l hl => hl⟩ ?_
    rintro ⟨pre, at_, ad, cap⟩ e w6 ⟨hN, hF6, hia, haj, hpl, ⟨d, hd⟩, hres⟩
    dsimp only at hN hF6 hia haj hpl hd hres ⊢
    (repeat first|refine zA ?_|refine zB ?_|refine zC ?_|refine zD ?_|refine zE ?_|refine zg ?_|refine zo rfl rfl (by first|exact trivial|(simp only[AllP];omega)|(simp(discharger:=omega)only[AllP,cA,cB];omega)|(simp only[AllP,cC,cD,cE,cF,cG];omega)) ?_|refine zn ?_|refine zb ?_|refine ze rfl ?_|refine zr ?_|refine zk ?_|refine zT rfl rfl rfl ?_|refine zU rfl rfl rfl ?_|refine zV rfl rfl rfl ?_|refine zf rfl ?_|refine zt rfl ?_)
    refine r_ifn (p := (at_ : Int) = j) rfl (fun hne => ?_) (fun heq => ?_)
    · have hne' : at_ ≠ j := fun q => hne (by rw [q])
      obtain ⟨d', rfl⟩ : ∃ d', d = d' + 1 := by
        cases d with
        | zero => have := hd.1; cases this; exact absurd rfl hne'
        | succ d' => exact ⟨d', rfl⟩
      obtain ⟨ms, hms1, hms2⟩ := hd.next
      have hfa := hvd _ _ hia haj hd
      have hms := lk_lt hms1
      have hmsj := hms2.1.le hL
      have hfms := hvd _ _ (by omega : m ≤ ms) (by omega) hms2
      (repeat first|refine zA ?_|refine zB ?_|refine zC ?_|refine zD ?_|refine zE ?_|refine zg ?_|refine zo rfl rfl (by first|exact trivial|(simp only[AllP];omega)|(simp(discharger:=omega)only[AllP,cA,cB];omega)|(simp only[AllP,cC,cD,cE,cF,cG];omega)) ?_|refine zn ?_|refine zb ?_|refine ze rfl ?_|refine zr ?_|refine zk ?_|refine zT rfl rfl rfl ?_|refine zU rfl rfl rfl ?_|refine zV rfl rfl rfl ?_|refine zf rfl ?_|refine zt rfl ?_)
      refine r_loop (α := Nat) [0, 2, 7, 10, 11, 12] (fun x => [ptr g.p, I j, .slice (some ⟨fb, 0, none⟩) (j + 1) (j + 1), .slice ad (pre ++ [at_]).length cap, I at_, I x]) (fun x w' => Kp [] w6 w' ∧ at_ < x ∧ x ≤ ms ∧ ∀ m', at_ < m' → m' < x → ¬ (lk E R at_ m' ∧ Di (lk E R) j m' d')) (fun x => ms - x) (at_ + 1) rfl ⟨Kp.refl _ _, by omega, by omega, fun m' h1 h2 => by omega⟩ ?_
      rintro x e w7 ⟨k67, hx1, hx2, hx3⟩
      have hF7 := k67.blk (by simp) hF6
      have h7 := ((h.kp0 kw).kp0 hN.kp).kp0 k67
      have hxj : x ≤ j := by omega
      have ex : Value.pointer (some ⟨fb, 0 + (x : Int).toNat, none⟩) = .pointer (some ⟨fb, x, none⟩) := by rw [Nat.zero_add, Int.toNat_natCast]
      have ea : Value.pointer (some ⟨fb, 0 + (at_ : Int).toNat, none⟩) = .pointer (some ⟨fb, at_, none⟩) := by rw [Nat.zero_add, Int.toNat_natCast]
      have hfx := hfr x (by omega) hxj
      (repeat first|refine zA ?_|refine zB ?_|refine zC ?_|refine zD ?_|refine zE ?_|refine zg ?_|refine zo rfl rfl (by first|exact trivial|(simp only[AllP];omega)|(simp(discharger:=omega)only[AllP,cA,cB];omega)|(simp only[AllP,cC,cD,cE,cF,cG];omega)) ?_|refine zn ?_|refine zb ?_|refine ze rfl ?_|refine zr ?_|refine zk ?_|refine zT rfl rfl rfl ?_|refine zU rfl rfl rfl ?_|refine zV rfl rfl rfl ?_|refine zf rfl ?_|refine zt rfl ?_)
      refine r_yes rfl (by simp; omega) ?_
      (repeat first|refine zA ?_|refine zB ?_|refine zC ?_|refine zD ?_|refine zE ?_|refine zg ?_|refine zo rfl rfl (by first|exact trivial|(simp only[AllP];omega)|(simp(discharger:=omega)only[AllP,cA,cB];omega)|(simp only[AllP,cC,cD,cE,cF,cG];omega)) ?_|refine zn ?_|refine zb ?_|refine ze rfl ?_|refine zr ?_|refine zk ?_|refine zT rfl rfl rfl ?_|refine zU rfl rfl rfl ?_|refine zV rfl rfl rfl ?_|refine zf rfl ?_|refine zt rfl ?_)
      refine r_seq ?_
      refine r_cut (α := Unit) [0, 2, 7, 10, 11, 12, 92] (fun _ => [ptr g.p, I j, .slice (some ⟨fb, 0, none⟩) (j + 1) (j + 1), .slice ad (pre ++ [at_]).length cap, I at_, I x, .bool (decide (lk E R at_ x) && decide (f x + 1 = f at_))]) (fun _ w' => Kp [] w7 w') ?_ ?_
      · refine r_mix (fun w' => Kp [] w7 w') [(0, false), (1, false), (2, false), (3, true), (4, false), (5, false), (6, false), (7, false), (8, false), (9, false), (10, false), (11, false), (12, false), (13, false), (14, false), (15, false), (16, false)] follows_mixed (by kernel_rfl) (by kernel_rfl) (by kernel_rfl) ((Sm.drew w7).kp _) ?_
        have kd := (Sm.drew w7).kp []
        have h8 := h7.kp0 kd
        generalize ({ w7 with drawn := w7.drawn + 1 } : World) = wd at kd h8 ⊢
        (repeat first|refine xo rfl rfl (by first|exact trivial|(simp only[AllP];omega)|(simp(discharger:=omega)only[AllP,cA,cB];omega)|(simp only[AllP,cC,cD,cE,cF,cG];omega)) ?_|refine xn ?_|refine x_know rfl _ _ (some true) rfl rfl rfl ?_|refine x_know rfl _ _ (some false) rfl rfl rfl ?_|refine x_know rfl _ _ none rfl rfl rfl ?_)
        refine x_act rfl ?_
        refine o_call (rWhy_ret h8.toRrB at_ x) rfl rfl rfl ?_
        rintro v w9 ⟨rfl, k9⟩
        have kd9 := kd.trans k9
        refine o_nil ⟨.inr kd9, ?_⟩
        (repeat first|refine xo rfl rfl (by first|exact trivial|(simp only[AllP];omega)|(simp(discharger:=omega)only[AllP,cA,cB];omega)|(simp only[AllP,cC,cD,cE,cF,cG];omega)) ?_|refine xn ?_|refine x_know rfl _ _ (some true) rfl rfl rfl ?_|refine x_know rfl _ _ (some false) rfl rfl rfl ?_|refine x_know rfl _ _ none rfl rfl rfl ?_)
        by_cases hl : lk E R at_ x
        · refine x_is true rfl 5 true rfl rfl rfl (by simpa [lk] using hl) ?_
          (repeat first|refine xo rfl rfl (by first|exact trivial|(simp only[AllP];omega)|(simp(discharger:=omega)only[AllP,cA,cB];omega)|(simp only[AllP,cC,cD,cE,cF,cG];omega)) ?_|refine xn ?_|refine x_know rfl _ _ (some true) rfl rfl rfl ?_|refine x_know rfl _ _ (some false) rfl rfl rfl ?_|refine x_know rfl _ _ none rfl rfl rfl ?_)
          refine x_load (b := fb) (off := x) (v := I (f x)) rfl ex (fun w' h' => (h'.blk (by simp) hF7).cell (il_get _ (by omega))) rfl rfl rfl rfl ?_
          (repeat first|refine xo rfl rfl (by first|exact trivial|(simp only[AllP];omega)|(simp(discharger:=omega)only[AllP,cA,cB];omega)|(simp only[AllP,cC,cD,cE,cF,cG];omega)) ?_|refine xn ?_|refine x_know rfl _ _ (some true) rfl rfl rfl ?_|refine x_know rfl _ _ (some false) rfl rfl rfl ?_|refine x_know rfl _ _ none rfl rfl rfl ?_)
          refine x_load (b := fb) (off := at_) (v := I (f at_)) rfl ea (fun w' h' => (h'.blk (by simp) hF7).cell (il_get _ (by omega))) rfl rfl rfl rfl ?_
          (repeat first|refine xo rfl rfl (by first|exact trivial|(simp only[AllP];omega)|(simp(discharger:=omega)only[AllP,cA,cB];omega)|(simp only[AllP,cC,cD,cE,cF,cG];omega)) ?_|refine xn ?_|refine x_know rfl _ _ (some true) rfl rfl rfl ?_|refine x_know rfl _ _ (some false) rfl rfl rfl ?_|refine x_know rfl _ _ none rfl rfl rfl ?_)
          exact ⟨(), by rw [decide_eq_true hl]; rfl, kd9⟩
        · refine x_is false rfl 5 true rfl rfl rfl (by simpa [lk] using hl) ?_
          (repeat first|refine xo rfl rfl (by first|exact trivial|(simp only[AllP];omega)|(simp(discharger:=omega)only[AllP,cA,cB];omega)|(simp only[AllP,cC,cD,cE,cF,cG];omega)) ?_|refine xn ?_|refine x_know rfl _ _ (some true) rfl rfl rfl ?_|refine x_know rfl _ _ (some false) rfl rfl rfl ?_|refine x_know rfl _ _ none rfl rfl rfl ?_)
          exact ⟨(), by rw [decide_eq_false hl]; rfl, kd9⟩
      rintro _ e w9 k9
      have hF9 := k9.blk (by simp) hF7
      have k69 := k67.trans k9
      (repeat first|refine zA ?_|refine zB ?_|refine zC ?_|refine zD ?_|refine zE ?_|refine zg ?_|refine zo rfl rfl (by first|exact trivial|(simp only[AllP];omega)|(simp(discharger:=omega)only[AllP,cA,cB];omega)|(simp only[AllP,cC,cD,cE,cF,cG];omega)) ?_|refine zn ?_|refine zb ?_|refine ze rfl ?_|refine zr ?_|refine zk ?_|refine zT rfl rfl rfl ?_|refine zU rfl rfl rfl ?_|refine zV rfl rfl rfl ?_|refine zf rfl ?_|refine zt rfl ?_)
      by_cases hnear : lk E R at_ x ∧ f x + 1 = f at_
      · obtain ⟨hl1, hl2⟩ := hnear
        refine r_yes rfl (by simp [hl1, hl2]) ?_
        have hdx : Di (lk E R) j x d' := by
          rcases hval x (by omega) hxj with ⟨n, hn, e⟩ | ⟨_, e⟩
          · have : n = d' := by omega
            subst this; exact hn
          · have := hd.1.le hL; omega
        have hN9 : NewS wc 3 w9 ad (pre ++ [at_]).length cap ((pre ++ [at_]).map fun n : Nat => I n) := ⟨hN.own.kp k69 (by simp), hN.kp.trans k69, hN.new⟩
        (repeat first|refine zA ?_|refine zB ?_|refine zC ?_|refine zD ?_|refine zE ?_|refine zg ?_|refine zo rfl rfl (by first|exact trivial|(simp only[AllP];omega)|(simp(discharger:=omega)only[AllP,cA,cB];omega)|(simp only[AllP,cC,cD,cE,cF,cG];omega)) ?_|refine zn ?_|refine zb ?_|refine ze rfl ?_|refine zr ?_|refine zk ?_|refine zT rfl rfl rfl ?_|refine zU rfl rfl rfl ?_|refine zV rfl rfl rfl ?_|refine zf rfl ?_|refine zt rfl ?_)
        refine o_buildSlice [I (x : Int)] rfl (by simp [Value.oneCell']) rfl (by decide) (by decide) rfl rfl rfl rfl rfl ?_
        intro b10 w10 hb10 hu10
        have k10 : Kp [] w9 w10 := hu10.kp [] (.inr (by omega))
        refine o_append1 rfl rfl (hN9.own.kp k10 (by simp)) hu10.blk rfl rfl rfl rfl (by simp [maxLen]; omega) (by simp; omega) rfl rfl ?_
        intro ad11 cap11 w11 ho11 k11 hn11
        have hz9 := hN9.kp.size
        have hz10 := k10.size
        have hF11 : Blk w11 fb (il f (j + 1)) 3 := k11.blk (fun hb => by have := hN.new fb hb; have := hF.lt; omega) (k10.blk (by simp) hF9)
        (repeat first|refine zA ?_|refine zB ?_|refine zC ?_|refine zD ?_|refine zE ?_|refine zg ?_|refine zo rfl rfl (by first|exact trivial|(simp only[AllP];omega)|(simp(discharger:=omega)only[AllP,cA,cB];omega)|(simp only[AllP,cC,cD,cE,cF,cG];omega)) ?_|refine zn ?_|refine zb ?_|refine ze rfl ?_|refine zr ?_|refine zk ?_|refine zT rfl rfl rfl ?_|refine zU rfl rfl rfl ?_|refine zV rfl rfl rfl ?_|refine zf rfl ?_|refine zt rfl ?_)
        have elen : ((pre ++ [at_]) ++ [x]).length = (pre ++ [at_]).length + 1 := by simp
        refine ⟨(pre ++ [at_], x, ad11, cap11), by dsimp only; rw [elen]; rfl, ⟨?_, hF11, by dsimp only; omega, by dsimp only; omega, by simp; omega, ⟨d', hdx⟩, fun l hl => ?_⟩, by dsimp only; omega⟩
        · dsimp only
          rw [elen, List.map_append (l₁ := pre ++ [at_])]
          exact ⟨ho11, (hN9.kp.trans k10).since k11 hN.new, fun b hb => by
            rcases hn11 b hb with q | q
            · exact hN.new b q
            · omega⟩
        · rw [List.append_assoc]
          exact hres _ (.step hd hx1 hl1 hdx hx3 hl)
      · refine r_no rfl (by rw [Bool.and_eq_false_iff]; by_cases q : lk E R at_ x
                            · exact .inr (decide_eq_false fun r => hnear ⟨q, r⟩)
                            · exact .inl (decide_eq_false q)) ?_
        (repeat first|refine zA ?_|refine zB ?_|refine zC ?_|refine zD ?_|refine zE ?_|refine zg ?_|refine zo rfl rfl (by first|exact trivial|(simp only[AllP];omega)|(simp(discharger:=omega)only[AllP,cA,cB];omega)|(simp only[AllP,cC,cD,cE,cF,cG];omega)) ?_|refine zn ?_|refine zb ?_|refine ze rfl ?_|refine zr ?_|refine zk ?_|refine zT rfl rfl rfl ?_|refine zU rfl rfl rfl ?_|refine zV rfl rfl rfl ?_|refine zf rfl ?_|refine zt rfl ?_)
        have hxm : x ≠ ms := fun q => by
          subst q
          exact hnear ⟨hms1, by omega⟩
        refine ⟨x + 1, rfl, ⟨k69, by omega, by omega, fun m' h1 h2 h3 => ?_⟩, by omega⟩
        by_cases q : m' = x
        · subst q
          have := hvd _ _ (by omega : m ≤ m') hxj h3.2
          exact hnear ⟨h3.1, by omega⟩
        · exact hx3 m' h1 (by omega) h3
    · have e1 : at_ = j := by omega
      subst e1
      (repeat first|refine zA ?_|refine zB ?_|refine zC ?_|refine zD ?_|refine zE ?_|refine zg ?_|refine zo rfl rfl (by first|exact trivial|(simp only[AllP];omega)|(simp(discharger:=omega)only[AllP,cA,cB];omega)|(simp only[AllP,cC,cD,cE,cF,cG];omega)) ?_|refine zn ?_|refine zb ?_|refine ze rfl ?_|refine zr ?_|refine zk ?_|refine zT rfl rfl rfl ?_|refine zU rfl rfl rfl ?_|refine zV rfl rfl rfl ?_|refine zf rfl ?_|refine zt rfl ?_)
      exact ⟨_, rfl, .inr ⟨trivial, pre ++ [at_], ad, cap, hres _ .done, rfl, hN.own, kw.trans hN.kp, fun b hb => by have := hN.new b hb; have := kw.size; omega⟩⟩
end
end Go.Vc
