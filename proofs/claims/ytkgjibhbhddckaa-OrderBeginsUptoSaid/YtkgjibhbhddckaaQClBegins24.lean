/- order: Chain. -/
import Derived.Test.YtkgjibhbhddckaaQClBegins23
namespace Go.Vc
open Go Go.Proofs
set_option maxRecDepth 10000
variable {w : World}
def farZ (far : Nat → Option Nat) (k : Int) : Option Value := if 0 ≤ k then (far k.toNat).map (fun n : Nat => I n) else none
theorem farZ_nat (far : Nat → Option Nat) (k : Nat) : farZ far k = (far k).map (fun n : Nat => I n) := by unfold farZ; rw [if_pos (by omega), Int.toNat_natCast]
theorem farZ_up (far : Nat → Option Nat) (k n : Nat) : upF (farZ far) k (some (I n)) = farZ (upN far k n) := by
  funext x
  unfold upF farZ upN
  by_cases hx : x = k
  · subst hx; rw [if_pos rfl, if_pos (by omega)]; simp
  · rw [if_neg hx]
    by_cases h0 : 0 ≤ x
    · rw [if_pos h0, if_pos h0, if_neg (by omega)]
    · rw [if_neg h0, if_neg h0]
theorem farZ_nil : farZ (fun _ => none) = fun _ => none := by
  funext x; unfold farZ; split <;> rfl
def nearB (far : Nat → Option Nat) (next at_ : Nat) : Bool := match far next with
  | some n => decide (n + 1 = (far at_).getD 0)
  | none => false
theorem near_ret20 {far : Nat → Option Nat} {mh next at_ : Nat} (h : MapI w mh (farZ far)) (hb : ∀ n, far next = some n → n ≤ 4096) :
    Ret Try.prog 64 [.map (some mh), I next, I at_] w (fun v w' => v = .bool (nearB far next at_) ∧ w' = w) := by
  refine enter Try.call64 Try.func64 rfl rfl rfl rfl ?_
  (repeat first|refine zA ?_|refine zg ?_|refine zo rfl rfl trivial ?_|refine zn ?_)
  refine o_lookI2 (.tuple #[I ((far next).getD 0 : Nat), .bool (far next).isSome]) rfl rfl h (by rw [farZ_nat]; cases far next <;> rfl) rfl rfl rfl rfl rfl rfl ?_
  (repeat first|refine zA ?_|refine zg ?_|refine zo rfl rfl trivial ?_|refine zn ?_)
  cases hn : far next with
  | none =>
    (repeat first|refine zo rfl rfl trivial ?_|refine zn ?_|refine zr ?_|refine zU rfl rfl rfl ?_)
    exact ⟨_, rfl, by simp [nearB, hn], rfl⟩
  | some n =>
    have := hb n hn
    simp only [Option.isSome_some, Option.getD_some]
    (repeat first|refine zo rfl rfl (by first|exact trivial|(simp only[AllP];omega)) ?_|refine zT rfl rfl rfl ?_)
    refine o_lookI (I ((far at_).getD 0 : Nat)) rfl rfl h (by rw [farZ_nat]; cases far at_ <;> rfl) rfl rfl rfl rfl rfl rfl ?_
    (repeat first|refine zo rfl rfl trivial ?_|refine zn ?_|refine zr ?_)
    refine ⟨_, rfl, ?_, rfl⟩
    unfold nearB
    rw [hn]
    dsimp only [Option.getD_some]
    congr 1
    rw [decide_eq_decide]
    omega
section
variable {g : OrG} {E : List Ev} {R : List Int}
theorem Bf.first {L : Nat → Nat → Prop} {i j : Nat} {far : Nat → Option Nat} {proc : List Nat} {h : Nat} {r : List Nat} (b : Bf L i j far proc (h :: r)) : ∃ d, far h = some d ∧ h ≤ j ∧ i ≤ h := by
  obtain ⟨d, hd⟩ := Option.isSome_iff_exists.1 ((b.mem h).1 (by simp))
  have := b.f1 h d hd
  exact ⟨d, hd, this.2.2, this.2.1⟩
theorem Bf.le {L : Nat → Nat → Prop} {i j : Nat} {far : Nat → Option Nat} {proc todo : List Nat} (b : Bf L i j far proc todo) (hL : ∀ a b, L a b → a < b) {k n : Nat} (h : far k = some n) : n ≤ j := by
  have := (b.f1 k n h).1.1.le hL
  omega
set_option maxHeartbeats 6400000 in
theorem oChain_ret (h : OrAt w g E R) (i j : Int) : Ret Try.prog 15 [ptr g.p, I i, I j] w (fun v w' =>
    (befI E R i j = false ∧ v = .slice none 0 0 ∧ w' = w) ∨
    (befI E R i j = true ∧ ∃ l ad cap, ChainR (lk E R) j.toNat i.toNat l ∧ v = .slice ad l.length cap ∧ NewS w 3 w' ad l.length cap (l.map fun n : Nat => I n))) := by
  have hsm := h.small
  have hL : ∀ a b, lk E R a b → a < b := fun a b q => (lk_lt q).1
  refine enter Try.call15 Try.func15 rfl rfl rfl rfl ?_
  (repeat first|refine zA ?_|refine zB ?_|refine zg ?_|refine zo rfl rfl trivial ?_|refine zn ?_)
  refine o_call (oBefore_ret h i j) rfl rfl rfl ?_
  rintro v w1 ⟨rfl, rfl⟩
  (repeat first|refine zo rfl rfl trivial ?_|refine zn ?_)
  cases hb : befI E R i j with
  | false =>
    refine r_yes rfl rfl ?_
    (repeat first|refine zA ?_|refine zg ?_|refine zo rfl rfl trivial ?_|refine zn ?_|refine zr ?_)
    exact ⟨_, rfl, .inl ⟨rfl, rfl, rfl⟩⟩
  | true =>
  refine r_no rfl rfl ?_
  have hch0 := (befI_iff.1 hb)
  have hlt0 := befI_lt hb
  obtain ⟨i, rfl⟩ : ∃ a : Nat, i = a := ⟨i.toNat, by omega⟩
  obtain ⟨j, rfl⟩ : ∃ a : Nat, j = a := ⟨j.toNat, by omega⟩
  simp only [Int.toNat_natCast] at hch0 ⊢
  have hch := hch0.2.2
  have hij : i < j := by omega
  have hjE : j < E.length := by omega
  (repeat first|refine zA ?_|refine zg ?_|refine zk ?_)
  refine o_makeMapI rfl rfl ?_
  intro mh w2 hmh k2 z2 hm2
  (repeat refine zo rfl rfl trivial ?_)
  refine o_insertI rfl rfl rfl hm2 rfl rfl rfl rfl ?_
  intro w3 hu3
  have hm3 := hu3.at_
  have k3 : Kp [mh] w2 w3 := hu3.kp [mh] (.inl (by simp))
  have k13 : Kp [] w1 w3 := k2.since k3 (by simp; omega)
  have hm3 : MapI w3 mh (farZ (upN (fun _ => none) j 0)) := by rw [← farZ_up, farZ_nil]; exact hm3
  (repeat first|refine zA ?_|refine zB ?_|refine zg ?_|refine zo rfl rfl trivial ?_|refine zn ?_)
  refine o_buildSlice [I (j : Int)] rfl (by simp [Value.oneCell']) rfl (by decide) (by decide) rfl rfl rfl rfl rfl ?_
  intro tb w4 htb hu4
  have k4 : Kp [] w3 w4 := hu4.kp [] (.inr (by omega))
  have hO4 : OwnO w4 3 tb 0 1 ([j].map fun n : Nat => I n) := OwnO.of_blk hu4.blk (by simp [maxLen])
  have zm3 : mh < w3.heap.size := by have := k3.size; omega
  have z3 := k13.size
  (repeat first|refine zo rfl rfl trivial ?_|refine zn ?_|refine zb ?_)
  refine r_loop (α := (Nat → Option Nat) × List Nat × List Nat × Nat × Nat × Nat) [0, 1, 2, 7, 8] (fun x => [ptr g.p, I i, I j, .map (some mh), .slice (some ⟨x.2.2.2.1, x.2.2.2.2.1, none⟩) x.2.2.1.length x.2.2.2.2.2])
    (fun x wc => Bf (lk E R) i j x.1 x.2.1 x.2.2.1 ∧ MapI wc mh (farZ x.1) ∧ OwnO wc 3 x.2.2.2.1 x.2.2.2.2.1 x.2.2.2.2.2 (x.2.2.1.map fun n : Nat => I n) ∧ w3.heap.size ≤ x.2.2.2.1 ∧ Kp [] w1 wc ∧ w3.heap.size ≤ wc.heap.size)
    (fun x => j + 1 - x.2.1.length) (upN (fun _ => none) j 0, [], [j], tb, 0, 1) rfl ⟨Bf.start (by omega), hm3.kp k4 (by simp), hO4, by dsimp only; omega, k13.trans k4, k4.size⟩ ?_
  rintro ⟨far, proc, todo, sb, so, sc⟩ e wc ⟨hB, hM, hO, hsb, kc, hzc⟩
  dsimp only at hB hM hO hsb ⊢
  have hcnt := hB.count
  (repeat first|refine zA ?_|refine zB ?_|refine zg ?_|refine zo rfl rfl trivial ?_|refine zn ?_)
  cases todo with
  | cons hd tl =>
    refine r_yes rfl (by simp) ?_
    obtain ⟨d, hd0, hdj, hdi⟩ := hB.first
    (repeat first|refine zA ?_|refine zC ?_|refine zg ?_|refine zo rfl rfl trivial ?_|refine zn ?_|refine zb ?_|refine zk ?_)
    refine r_loop (α := (Nat → Option Nat) × List Nat × Nat × Nat × Nat × Nat) [0, 1, 2, 7, 8, 9] (fun x => [ptr g.p, I i, I j, .map (some mh), .slice (some ⟨x.2.2.1, x.2.2.2.1, none⟩) (hd :: x.2.1).length x.2.2.2.2.1, I x.2.2.2.2.2])
      (fun x wc => (Bf (lk E R) i j x.1 proc (hd :: x.2.1) ∧ x.1 hd = some d ∧ i ≤ x.2.2.2.2.2 ∧ x.2.2.2.2.2 ≤ hd ∧ ∀ p, i ≤ p → p < x.2.2.2.2.2 → lk E R p hd → (x.1 p).isSome = true) ∧ MapI wc mh (farZ x.1) ∧ OwnO wc 3 x.2.2.1 x.2.2.2.1 x.2.2.2.2.1 ((hd :: x.2.1).map fun n : Nat => I n) ∧ w3.heap.size ≤ x.2.2.1 ∧ Kp [] w1 wc ∧ w3.heap.size ≤ wc.heap.size)
      (fun x => hd - x.2.2.2.2.2) (far, tl, sb, so, sc, i) rfl ⟨⟨hB, hd0, Nat.le_refl _, hdi, fun p h1 h2 => by dsimp only at h2; omega⟩, hM, hO, hsb, kc, hzc⟩ ?_
    rintro ⟨far, tl, sb, so, sc, k⟩ e wc ⟨⟨hB, hd0, hik, hkh, hcl⟩, hM, hO, hsb, kc, hzc⟩
    dsimp only at hB hd0 hik hkh hcl hM hO hsb ⊢
    have hc0 : wc.cell? ⟨sb, so + 0, none⟩ = some (I (hd : Int)) := hO.get rfl
    have hcnt2 := hB.count
    rw [List.length_cons] at hcnt2
    (repeat first|refine zA ?_|refine zB ?_|refine zg ?_|refine zo rfl rfl (by first|exact trivial|(simp only[AllP,cC,cD,cE,cF,cG];omega)) ?_)
    refine o_loadc (v := I (hd : Int)) rfl hc0 rfl rfl rfl rfl ?_
    (repeat first|refine zo rfl rfl trivial ?_|refine zn ?_)
    refine r_if rfl (fun hc => ?_) (fun hc => ?_)
    · have hkl : k < hd := by omega
      have hc1 := h.kp0 kc
      (repeat first|refine zA ?_|refine zC ?_|refine zg ?_|refine zo rfl rfl trivial ?_|refine zb ?_|refine zk ?_)
      refine o_lookI2 (.tuple #[I ((far k).getD 0 : Nat), .bool (far k).isSome]) rfl rfl hM (by rw [farZ_nat]; cases far k <;> rfl) rfl rfl rfl rfl rfl rfl ?_
      (repeat first|refine zA ?_|refine zg ?_|refine zo rfl rfl trivial ?_|refine zn ?_)
      cases hfk : far k with
      | some n =>
        simp only [Option.isSome_some, Option.getD_some]
        (repeat first|refine zg ?_|refine zo rfl rfl (by first|exact trivial|(simp only[AllP];omega)) ?_|refine zn ?_|refine zk ?_|refine zU rfl rfl rfl ?_|refine zf rfl ?_)
        refine ⟨(far, tl, sb, so, sc, k + 1), rfl, ⟨⟨hB, hd0, by dsimp only; omega, by dsimp only; omega, fun p h1 h2 h3 => ?_⟩, hM, hO, hsb, kc, hzc⟩, by dsimp only; omega⟩
        dsimp only at h2 ⊢
        by_cases hp : p = k
        · rw [hp, hfk]; rfl
        · exact hcl p h1 (by omega) h3
      | none =>
        simp only [Option.isSome_none, Option.getD_none]
        (repeat first|refine zo rfl rfl (by first|exact trivial|(simp only[AllP,cC,cD,cE,cF,cG];omega)) ?_|refine zT rfl rfl rfl ?_)
        refine o_loadc (v := I (hd : Int)) rfl hc0 rfl rfl rfl rfl ?_
        refine o_call (oWhy_ret hc1.toOrB k hd) rfl rfl rfl ?_
        rintro v w5 ⟨rfl, k5⟩
        have hM5 := hM.kp k5 (by simp)
        have hO5 := hO.kp k5 (by simp)
        have hc05 : w5.cell? ⟨sb, so + 0, none⟩ = some (I (hd : Int)) := hO5.get rfl
        (repeat first|refine zo rfl rfl trivial ?_|refine zn ?_)
        by_cases hlk : lk E R k hd
        · refine r_yes rfl (by simpa [lk] using hlk) ?_
          (repeat first|refine zA ?_|refine zg ?_|refine zo rfl rfl (by first|exact trivial|(simp only[AllP,cC,cD,cE,cF,cG];omega)) ?_)
          refine o_loadc (v := I (hd : Int)) rfl hc05 rfl rfl rfl rfl ?_
          refine o_lookI (I (d : Int)) rfl rfl hM5 (by rw [farZ_nat, hd0]; rfl) rfl rfl rfl rfl rfl rfl ?_
          have hdle := hB.le hL hd0
          (repeat refine zo rfl rfl (by first|exact trivial|(simp only[AllP];omega)) ?_)
          refine o_mapSet rfl rfl rfl hM5 rfl rfl rfl rfl ?_
          intro w6 hu6
          have hM6 := hu6.at_
          have k6 : Kp [mh] w5 w6 := hu6.kp [mh] (.inl (by simp))
          have hM6 : MapI w6 mh (farZ (upN far k (d + 1))) := by rw [← farZ_up]; exact hM6
          have hO6 := hO5.kp k6 (by simp; omega)
          (repeat first|refine zg ?_|refine zo rfl rfl trivial ?_|refine zn ?_)
          refine o_buildSlice [I (k : Int)] rfl (by simp [Value.oneCell']) rfl (by decide) (by decide) rfl rfl rfl rfl rfl ?_
          intro b7 w7 hb7 hu7
          have k7 : Kp [] w6 w7 := hu7.kp [] (.inr (by omega))
          refine o_appendO rfl rfl (hO6.kp k7 (by simp)) (by simp) hu7.blk rfl rfl rfl rfl (by rw [List.length_cons]; simp only [maxLen]; omega) (by rw [List.length_cons]; omega) rfl rfl ?_
          intro b8 off8 cap8 w8 hO8 k8 hb8
          have z5 := k5.size
          have z6 := k6.size
          have z7 := k7.size
          have z8 := k8.size
          have hsb8 : w3.heap.size ≤ b8 := by rcases hb8 with q | q <;> omega
          have kw : Kp [] w1 w8 := (((kc.trans k5).since k6 (by simp; omega)).trans k7).since k8 (by simp; omega)
          have hM8 : MapI w8 mh (farZ (upN far k (d + 1))) := (hM6.kp k7 (by simp)).kp k8 (by simp; omega)
          have hBp := hB.push hL hd0 hfk hik hlk
          (repeat first|refine zg ?_|refine zo rfl rfl (by first|exact trivial|(simp only[AllP];omega)) ?_|refine zn ?_)
          refine ⟨(upN far k (d + 1), tl ++ [k], b8, off8, cap8, k + 1), ?_, ⟨⟨hBp, ?_, by dsimp only; omega, by dsimp only; omega, fun p h1 h2 h3 => ?_⟩, hM8, ?_, hsb8, kw, by omega⟩, by dsimp only; omega⟩
          · have e8 : (hd :: (tl ++ [k])).length = (hd :: tl).length + 1 := by simp
            dsimp only
            rw [e8]; rfl
          · dsimp only; unfold upN; rw [if_neg (by omega)]; exact hd0
          · dsimp only at h2 ⊢
            unfold upN
            by_cases hp : p = k
            · rw [if_pos hp]; rfl
            · rw [if_neg hp]; exact hcl p h1 (by omega) h3
          · dsimp only
            have e : (hd :: (tl ++ [k])).map (fun n : Nat => I n) = (hd :: tl).map (fun n : Nat => I n) ++ [I (k : Int)] := by simp
            rw [e]; exact hO8
        · refine r_no rfl (by simpa [lk] using hlk) ?_
          (repeat first|refine zg ?_|refine zo rfl rfl (by first|exact trivial|(simp only[AllP];omega)) ?_|refine zn ?_|refine zk ?_)
          refine ⟨(far, tl, sb, so, sc, k + 1), rfl, ⟨⟨hB, hd0, by dsimp only; omega, by dsimp only; omega, fun p h1 h2 h3 => ?_⟩, hM5, hO5, hsb, kc.trans k5, by have := k5.size; omega⟩, by dsimp only; omega⟩
          dsimp only at h2 ⊢
          by_cases hp : p = k
          · rw [hp] at h3; exact absurd h3 hlk
          · exact hcl p h1 (by omega) h3
    · have hkl : k = hd := by omega
      subst hkl
      have hBp := hB.pop (fun p h1 h2 => hcl p h1 (hL _ _ h2) h2)
      have hlc := hO.le
      simp only [List.length_map, List.length_cons] at hlc
      (repeat first|refine zg ?_|refine zo rfl rfl (by first|exact trivial|(simp only[AllP,cC,cD,cE,cF,cG];omega)) ?_|refine zn ?_|refine ze rfl ?_)
      refine ⟨(far, proc ++ [k], tl, sb, offS so 1 sc 1, sc - 1), ?_, ⟨hBp, hM, hO.tail, hsb, kc, hzc⟩, by dsimp only; rw [List.length_append]; simp; omega⟩
      rfl
  | nil =>
    refine r_no rfl (by simp) ?_
    (repeat first|refine zA ?_|refine zg ?_|refine zo rfl rfl trivial ?_|refine ze rfl ?_)
    have hall := hB.whole hL
    obtain ⟨n0, hn0⟩ := hch.pn
    obtain ⟨d0, _, hd0⟩ := hn0.di
    refine o_buildSlice [I (i : Int)] rfl (by simp [Value.oneCell']) rfl (by decide) (by decide) rfl rfl rfl rfl rfl ?_
    intro cb w5 hcb hu5
    have k5 : Kp [] wc w5 := hu5.kp [] (.inr (by omega))
    have hM5 := hM.kp k5 (by simp)
    have hmlt : mh < wc.heap.size := by omega
    have hN5 : NewS wc 3 w5 (some ⟨cb, 0, none⟩) ([] ++ [i]).length 1 (([] ++ [i]).map fun n : Nat => I n) := ⟨⟨rfl, rfl, rfl, by simp, by simp [maxLen], [], by simpa using hu5.blk, by simp⟩, k5, fun b hb => by simp [blkOf] at hb; omega⟩
    (repeat first|refine zA ?_|refine zB ?_|refine zg ?_|refine zo rfl rfl trivial ?_|refine zn ?_|refine zb ?_)
    refine r_loop (α := List Nat × Nat × Option Addr × Nat) [0, 2, 7, 12, 13] (fun x => [ptr g.p, I j, .map (some mh), .slice x.2.2.1 (x.1 ++ [x.2.1]).length x.2.2.2, I x.2.1])
      (fun x w' => NewS wc 3 w' x.2.2.1 (x.1 ++ [x.2.1]).length x.2.2.2 ((x.1 ++ [x.2.1]).map fun n : Nat => I n) ∧ MapI w' mh (farZ far) ∧ i ≤ x.2.1 ∧ x.2.1 ≤ j ∧ x.1.length ≤ x.2.1 ∧ (∃ d, Di (lk E R) j x.2.1 d) ∧ ∀ l, ChainR (lk E R) j x.2.1 l → ChainR (lk E R) j i (x.1 ++ l))
      (fun x => j - x.2.1) ([], i, some ⟨cb, 0, none⟩, 1) rfl ⟨hN5, hM5, Nat.le_refl _, by dsimp only; omega, by simp, ⟨d0, hd0⟩, fun l hl => hl⟩ ?_
    rintro ⟨pre, at_, ad, cap⟩ e w6 ⟨hN, hM6, hia, haj, hpl, ⟨d, hd⟩, hres⟩
    dsimp only at hN hM6 hia haj hpl hd hres ⊢
    (repeat first|refine zA ?_|refine zB ?_|refine zg ?_|refine zo rfl rfl trivial ?_|refine zn ?_)
    refine r_ifn (p := (at_ : Int) = j) rfl (fun hne => ?_) (fun heq => ?_)
    · have hne' : at_ ≠ j := fun q => hne (by rw [q])
      obtain ⟨d', rfl⟩ : ∃ d', d = d' + 1 := by
        cases d with
        | zero => have := hd.1; cases this; exact absurd rfl hne'
        | succ d' => exact ⟨d', rfl⟩
      obtain ⟨ms, hms1, hms2⟩ := hd.next
      have hfa := hall _ _ hia hd
      have hms := lk_lt hms1
      have hmsj := hms2.1.le hL
      have hfms := hall _ _ (by omega : i ≤ ms) hms2
      (repeat first|refine zA ?_|refine zC ?_|refine zg ?_|refine zo rfl rfl (by first|exact trivial|(simp only[AllP];omega)) ?_|refine zn ?_|refine zb ?_|refine zk ?_)
      refine r_loop (α := Nat) [0, 2, 7, 12, 13, 14] (fun x => [ptr g.p, I j, .map (some mh), .slice ad (pre ++ [at_]).length cap, I at_, I x]) (fun x w' => Kp [] w6 w' ∧ at_ < x ∧ x ≤ ms ∧ ∀ m', at_ < m' → m' < x → ¬ (lk E R at_ m' ∧ Di (lk E R) j m' d')) (fun x => ms - x) (at_ + 1) rfl ⟨Kp.refl _ _, by omega, by omega, fun m' h1 h2 => by omega⟩ ?_
      rintro x e w7 ⟨k67, hx1, hx2, hx3⟩
      have hM7 := hM6.kp k67 (by simp)
      have h7 := ((h.kp0 kc).kp0 hN.kp).kp0 k67
      (repeat first|refine zA ?_|refine zB ?_|refine zg ?_|refine zo rfl rfl trivial ?_)
      refine o_call (oWhy_ret h7.toOrB at_ x) rfl rfl rfl ?_
      rintro v w8 ⟨rfl, k8⟩
      have hM8 := hM7.kp k8 (by simp)
      (repeat refine zo rfl rfl trivial ?_)
      by_cases hlk : lk E R at_ x
      rotate_left
      · refine o_is true 5 false rfl rfl rfl (by simpa [lk] using hlk) ?_
        (repeat first|refine zg ?_|refine zo rfl rfl (by first|exact trivial|(simp only[AllP];omega)) ?_|refine zn ?_|refine zb ?_|refine zk ?_|refine zt rfl ?_)
        have hxm : x ≠ ms := fun q => hlk (q ▸ hms1)
        refine ⟨x + 1, rfl, ⟨k67.trans k8, by omega, by omega, fun m' h1 h2 h3 => ?_⟩, by omega⟩
        by_cases q : m' = x
        · subst q; exact hlk h3.1
        · exact hx3 m' h1 (by omega) h3
      refine o_is false 5 false rfl rfl rfl (by simpa [lk] using hlk) ?_
      (repeat refine zo rfl rfl trivial ?_)
      refine o_call (near_ret20 hM8 (fun n hn => by have := hB.le hL hn; omega)) rfl rfl rfl ?_
      rintro v w9 ⟨rfl, rfl⟩
      (repeat first|refine zo rfl rfl trivial ?_|refine zn ?_)
      by_cases hnear : nearB far x at_ = true
      · obtain ⟨n, hfx, hnx⟩ : ∃ n, far x = some n ∧ n = d' := by
          unfold nearB at hnear
          cases hfx : far x with
          | none => rw [hfx] at hnear; cases hnear
          | some n => rw [hfx, hfa] at hnear; exact ⟨n, rfl, by simpa using hnear⟩
        subst hnx
        have hdx := (hB.f1 x n hfx).1
        have hN9 : NewS wc 3 w9 ad (pre ++ [at_]).length cap ((pre ++ [at_]).map fun n : Nat => I n) := ⟨(hN.own.kp k67 (by simp)).kp k8 (by simp), (hN.kp.trans k67).trans k8, hN.new⟩
        refine r_no rfl (by simp [hnear]) ?_
        (repeat first|refine zg ?_|refine zo rfl rfl trivial ?_|refine zn ?_|refine ze rfl ?_)
        refine o_buildSlice [I (x : Int)] rfl (by simp [Value.oneCell']) rfl (by decide) (by decide) rfl rfl rfl rfl rfl ?_
        intro b10 w10 hb10 hu10
        have k10 : Kp [] w9 w10 := hu10.kp [] (.inr (by omega))
        refine o_append1 rfl rfl (hN9.own.kp k10 (by simp)) hu10.blk rfl rfl rfl rfl (by simp [maxLen]; omega) (by simp; omega) rfl rfl ?_
        intro ad11 cap11 w11 ho11 k11 hn11
        have hz9 := hN9.kp.size
        have hz10 := k10.size
        have hM11 : MapI w11 mh (farZ far) := (hM8.kp k10 (by simp)).kp k11 (fun hb => by have := hN.new mh hb; omega)
        (repeat first|refine zo rfl rfl trivial ?_|refine zn ?_)
        have elen : ((pre ++ [at_]) ++ [x]).length = (pre ++ [at_]).length + 1 := by simp
        refine ⟨(pre ++ [at_], x, ad11, cap11), by dsimp only; rw [elen]; rfl, ⟨?_, hM11, by dsimp only; omega, by dsimp only; omega, by simp; omega, ⟨n, hdx⟩, fun l hl => ?_⟩, by dsimp only; omega⟩
        · dsimp only
          rw [elen, List.map_append (l₁ := pre ++ [at_])]
          exact ⟨ho11, (hN9.kp.trans k10).since k11 hN.new, fun b hb => by
            rcases hn11 b hb with q | q
            · exact hN.new b q
            · omega⟩
        · rw [List.append_assoc]
          exact hres _ (.step hd hx1 hlk hdx hx3 hl)
      · refine r_yes rfl (by simp [hnear]) ?_
        (repeat first|refine zg ?_|refine zo rfl rfl (by first|exact trivial|(simp only[AllP];omega)) ?_|refine zn ?_|refine zb ?_|refine zk ?_)
        have hxm : x ≠ ms := fun q => by
          subst q
          apply hnear
          unfold nearB
          rw [hfms, hfa]; simp
        refine ⟨x + 1, rfl, ⟨k67.trans k8, by omega, by omega, fun m' h1 h2 h3 => ?_⟩, by omega⟩
        by_cases q : m' = x
        · subst q
          apply hnear
          unfold nearB
          rw [hall _ _ (by omega) h3.2, hfa]; simp
        · exact hx3 m' h1 (by omega) h3
    · have e1 : at_ = j := by omega
      subst e1
      (repeat first|refine zA ?_|refine zg ?_|refine zo rfl rfl trivial ?_|refine zn ?_|refine ze rfl ?_|refine zr ?_)
      exact ⟨_, rfl, .inr ⟨trivial, pre ++ [at_], ad, cap, hres _ .done, rfl, hN.own, kc.trans hN.kp, fun b hb => by have := hN.new b hb; have := kc.size; omega⟩⟩
end
end Go.Vc
