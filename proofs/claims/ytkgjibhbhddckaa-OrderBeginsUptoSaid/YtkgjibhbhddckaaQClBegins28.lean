/- order: First; the law's own small functions; lives. -/
import Derived.Test.YtkgjibhbhddckaaQClBegins27
import Derived.Test.YtkgjibhbhddckaaQClBegins19
namespace Go.Vc
open Go Go.Proofs
set_option maxRecDepth 10000
variable {w : World}
theorem same20_ret {ad1 ad2 : Option Addr} {l1 l2 : List Int} {c1 c2 : Nat} (h1 : ReadS w ad1 (l1.map I)) (h2 : ReadS w ad2 (l2.map I)) (hl : l1.length ≤ 9223372036854775807) :
    Ret Try.prog 14 [.slice ad1 l1.length c1, .slice ad2 l2.length c2] w (fun v w' => v = .bool (decide (l1 = l2)) ∧ Sm w w') := by
  refine enter Try.call14 Try.func14 rfl rfl rfl rfl ?_
  (repeat first|refine zA ?_|refine zB ?_|refine zg ?_|refine zo rfl rfl trivial ?_|refine zn ?_)
  refine r_ifn (p := (l1.length : Int) = l2.length) rfl (fun hne => ?_) (fun heq => ?_)
  · (repeat first|refine zA ?_|refine zg ?_|refine zo rfl rfl trivial ?_|refine zn ?_|refine zr ?_)
    refine ⟨_, rfl, ?_, Sm.refl _⟩
    rw [decide_eq_false]
    rintro rfl; exact hne rfl
  have hlen : l1.length = l2.length := by omega
  (repeat first|refine zA ?_|refine zB ?_|refine zg ?_|refine zo rfl rfl trivial ?_|refine zn ?_|refine zb ?_|refine zk ?_)
  refine r_loop (α := Nat) [0, 1, 5] (fun i => [.slice ad1 l1.length c1, .slice ad2 l2.length c2, I i]) (fun i w1 => Sm w w1 ∧ i ≤ l1.length ∧ l1.take i = l2.take i) (fun i => l1.length - i) 0 rfl ⟨Sm.refl _, by omega, rfl⟩ ?_
  rintro i e w1 ⟨hs, hi, htk⟩
  (repeat first|refine zA ?_|refine zB ?_|refine zg ?_|refine zo rfl rfl trivial ?_|refine zn ?_)
  refine r_if rfl (fun hc => ?_) (fun hc => ?_)
  · have hlt : i < l1.length := by omega
    have hlt2 : i < l2.length := by omega
    obtain ⟨b1, o1, rfl, _, hc1⟩ := h1.at_ (by simp; omega)
    obtain ⟨b2, o2, rfl, _, hc2⟩ := h2.at_ (by simp; omega)
    have g1 : ∀ w', Sm w w' → w'.cell? ⟨b1, o1 + i, none⟩ = some (I l1[i]) := fun w' hs => by
      rw [← hc1 i (I l1[i]) (by simp [hlt])]; exact World.cell?_of_block (by rw [hs.heap])
    have g2 : ∀ w', Sm w w' → w'.cell? ⟨b2, o2 + i, none⟩ = some (I l2[i]) := fun w' hs => by
      rw [← hc2 i (I l2[i]) (by simp [hlt2])]; exact World.cell?_of_block (by rw [hs.heap])
    (repeat first|refine zC ?_|refine zb ?_|refine zk ?_)
    refine r_seq ?_
    refine r_quietS follows_mixed (by kernel_rfl) ?_
    (repeat refine yo rfl rfl (by first|exact trivial|(simp only[AllP];omega)) ?_)
    refine q_load rfl (fun w2 hs2 => g1 w2 (hs.trans hs2)) rfl rfl rfl rfl ?_
    (repeat refine yo rfl rfl (by first|exact trivial|(simp only[AllP];omega)) ?_)
    refine q_load rfl (fun w2 hs2 => g2 w2 (hs.trans hs2)) rfl rfl rfl rfl ?_
    (repeat first|refine yo rfl rfl trivial ?_|refine yn ?_)
    intro w2 hs2
    have t1 : l1.take (i + 1) = l1.take i ++ [l1[i]] := by rw [List.take_add_one, List.getElem?_eq_getElem hlt]; rfl
    have t2 : l2.take (i + 1) = l2.take i ++ [l2[i]] := by rw [List.take_add_one, List.getElem?_eq_getElem hlt2]; rfl
    refine r_ifn (p := l1[i] = l2[i]) rfl (fun hne => ?_) (fun heq => ?_)
    · (repeat first|refine zA ?_|refine zg ?_|refine zo rfl rfl trivial ?_|refine zn ?_|refine zr ?_)
      refine ⟨_, rfl, ?_, hs.trans hs2⟩
      rw [decide_eq_false]
      rintro rfl; exact hne rfl
    · (repeat first|refine zg ?_|refine zo rfl rfl (by first|exact trivial|(simp only[AllP];omega)) ?_|refine zn ?_|refine zk ?_)
      exact ⟨i + 1, rfl, ⟨hs.trans hs2, by omega, by rw [t1, t2, htk, heq]⟩, by omega⟩
  · have e1 : i = l1.length := by omega
    have e2 : l1 = l2 := by
      have := htk
      rw [e1, List.take_length] at this
      rw [this, hlen, List.take_length]
    (repeat first|refine zA ?_|refine zg ?_|refine zo rfl rfl trivial ?_|refine zn ?_|refine ze rfl ?_|refine zr ?_)
    exact ⟨_, rfl, by rw [decide_eq_true e2], hs⟩
theorem same20_ret2 {ad1 ad2 : Option Addr} {l1 l2 : List Int} {n1 n2 c1 c2 : Nat} (h1 : ReadS w ad1 (l1.map I)) (h2 : ReadS w ad2 (l2.map I)) (e1 : l1.length = n1) (e2 : l2.length = n2) (hl : n1 ≤ 9223372036854775807) :
    Ret Try.prog 14 [.slice ad1 n1 c1, .slice ad2 n2 c2] w (fun v w' => v = .bool (decide (l1 = l2)) ∧ Sm w w') := by
  subst e1 e2
  exact same20_ret h1 h2 hl
theorem same20_yes {ad1 ad2 : Option Addr} {l : List Int} {n1 n2 c1 c2 : Nat} (h1 : ReadS w ad1 (l.map I)) (h2 : ReadS w ad2 (l.map I)) (e1 : l.length = n1) (e2 : l.length = n2) (hl : n1 ≤ 9223372036854775807) :
    Ret Try.prog 14 [.slice ad1 n1 c1, .slice ad2 n2 c2] w (fun v w' => v = .bool true ∧ Sm w w') :=
  (same20_ret2 h1 h2 e1 e2 hl).mono fun v w' ⟨h, hs⟩ => ⟨by rw [h, decide_eq_true rfl], hs⟩
theorem num20_ret (n : Int) : Ret Try.prog 11 [I n] w (fun v w' => v = I n ∧ w' = w) := by
  refine enter Try.call11 Try.func11 rfl rfl rfl rfl ?_
  (repeat first|refine zA ?_|refine zg ?_|refine zo rfl rfl trivial ?_|refine zn ?_|refine zr ?_)
  exact ⟨_, rfl, rfl, rfl⟩
section
variable {g : OrG} {E : List Ev} {R : List Int}
theorem First1_ret (x : P3) : Ret Try.prog 73 [.agg ⟨pairC x⟩] w (fun v w' => v = .bool true ∧ Kp [] w w') := by
  refine enter Try.call73 Try.func73 rfl rfl rfl rfl ?_
  (repeat first|refine zA ?_|refine zg ?_)
  refine o_box rfl rfl rfl ?_
  intro bx w1 hbx hu1
  have k1 : Kp [] w w1 := hu1.kp [] (.inr (by omega))
  (repeat first|refine zA ?_|refine zg ?_|refine zo rfl rfl trivial ?_|refine zn ?_|refine zr ?_)
  exact ⟨_, rfl, rfl, k1⟩
theorem OrAt.lt (h : OrAt w g E R) : ∀ b, b ∈ g.F → b < w.heap.size := h.fl
noncomputable def firstV (E : List Ev) (R : List Int) : Option P3 := bestGo (fun _ => true) none (racesN E R E.length)
theorem xFirst_ret {p : Option Addr} {F : List Nat} (h : OX w p F E R) : Ret Try.prog 26 [.pointer p] w (fun v w' => v = .tuple #[.agg ⟨pairC ((firstV E R).getD (0, 0, 0))⟩, .bool (firstV E R).isSome] ∧ Kp [] w w') := by
  refine enterC Try.call26 Try.func26 rfl rfl rfl rfl ?_
  (repeat first|refine zA ?_|refine zg ?_)
  refine o_alloc rfl rfl rfl rfl ?_
  intro bs w1 hbs hu1
  have k1 : Kp [] w w1 := hu1.kp [] (.inr (by omega))
  have h1 := h.kp0 k1
  (repeat first|refine zA ?_|refine zg ?_|refine zo rfl rfl trivial ?_|refine zn ?_)
  refine o_call (obest_ret (f := 73) (caps := []) (wb := fun _ => true) (Fw := []) h1 (by simp) (fun W x _ => First1_ret x)) rfl rfl rfl ?_
  rintro v w2 ⟨rfl, k2⟩
  have hB2 := k2.blk (by simp) hu1.blk
  (repeat refine zo rfl rfl trivial ?_)
  refine o_storeA (cs := pairC ((firstV E R).getD (0, 0, 0))) rfl hB2 (Nat.le_refl _) rfl (by simp [Value.oneCell']) rfl rfl rfl rfl ?_
  intro w3 hu3
  have k3 : Kp [] w w3 := (k1.trans k2).since (hu3.kp [bs] (.inl (by simp))) (by simp; omega)
  have hB3 : Blk w3 bs (pairC ((firstV E R).getD (0, 0, 0))) 53 := hu3.blk
  (repeat first|refine zo rfl rfl trivial ?_|refine zn ?_|refine zr ?_)
  exact ⟨[.agg ⟨pairC ((firstV E R).getD (0, 0, 0))⟩, .bool (firstV E R).isSome], ⟨⟨_, rfl, run_loadB hB3 rfl rfl rfl rfl⟩, ⟨_, rfl⟩, trivial⟩, rfl, k3⟩
theorem oFirst_ret (h : OrAt w g E R) (hw : ∀ b, b ∈ g.F → b < w.heap.size) : Ret Try.prog 26 [ptr g.p] w (fun v w' => v = .tuple #[.agg ⟨pairC ((firstV E R).getD (0, 0, 0))⟩, .bool (firstV E R).isSome] ∧ Kp [] w w') :=
  xFirst_ret (.inr ⟨g, rfl, rfl, h⟩)
end
/-! ### lives -/
def sO : Shp := ⟨2, 1, 0, 1, []⟩
def evO1 : List Ev := [⟨7, 0, 1⟩, ⟨2, 0, 0⟩, ⟨1, 1, 0⟩]
def evO2 : List Ev := [⟨7, 0, 1⟩, ⟨5, 0, 0⟩, ⟨2, 0, 0⟩, ⟨6, 0, 0⟩, ⟨5, 1, 0⟩, ⟨1, 1, 0⟩]
theorem okO1 : okTo sO evO1 3 := by
  intro j x hj hx
  match j, hj with
  | 0, _ => simp [evO1] at hx; subst hx; decide
  | 1, _ => simp [evO1] at hx; subst hx; decide
  | 2, _ => simp [evO1] at hx; subst hx; decide
theorem okO2 : okTo sO evO2 6 := by
  intro j x hj hx
  match j, hj with
  | 0, _ => simp [evO2] at hx; subst hx; decide
  | 1, _ => simp [evO2] at hx; subst hx; decide
  | 2, _ => simp [evO2] at hx; subst hx; decide
  | 3, _ => simp [evO2] at hx; subst hx; decide
  | 4, _ => simp [evO2] at hx; subst hx; decide
  | 5, _ => simp [evO2] at hx; subst hx; decide
def R1 : List Int := rnds sO evO1 3
def R2 : List Int := rnds sO evO2 6
theorem noBad1 {e : Int} : ¬ badO sO evO1 e := by
  rintro (⟨_, h⟩ | ⟨_, _, h⟩ | ⟨_, _, _, h⟩)
  · exact absurd h (by decide)
  · exact absurd h (by decide)
  · exact h okO1
theorem noBad2 {e : Int} : ¬ badO sO evO2 e := by
  rintro (⟨_, h⟩ | ⟨_, _, h⟩ | ⟨_, _, _, h⟩)
  · exact absurd h (by decide)
  · exact absurd h (by decide)
  · exact h okO2
theorem bef_next {E : List Ev} {R : List Int} {i : Nat} (h : befI E R i (i + 1 : Nat) = true) : lk E R i (i + 1) := by
  have h := befI_nat.1 h
  cases h with
  | one h => exact h
  | more h1 h2 => have := lk_lt h1; have := ch_lt h2; omega
theorem b12 : befI evO1 R1 (1 : Nat) (2 : Nat) = false := by
  rw [Bool.eq_false_iff]
  intro h
  exact absurd (bef_next h) (by decide)
theorem first1 : firstV evO1 R1 = some (0, 1, 2) := by
  have r01 : raceI evO1 R1 0 1 = false := by simp [raceI, evA, evO1, accB]
  have r02 : raceI evO1 R1 0 2 = false := by simp [raceI, evA, evO1, accB]
  have r12 : raceI evO1 R1 1 2 = true := by
    have := b12
    simp [raceI, evA, evO1, accB] at this ⊢
    exact this
  have e1 : racesN evO1 R1 evO1.length = [(0, 1, 2)] := by
    show racesN evO1 R1 3 = _
    rw [racesN_succ, racesN_succ, racesN_succ, racesJ_succ evO1 R1 2 1, racesJ_succ evO1 R1 2 0, racesJ_succ evO1 R1 1 0, r01, r02, r12]
    rfl
  unfold firstV
  rw [e1]; rfl
theorem b25 : befI evO2 R2 (2 : Nat) (5 : Nat) = true := by
  rw [befI_nat]
  exact .more (k := 3) (by decide) (.more (k := 4) (by decide) (.one (by decide)))
theorem first2 : firstV evO2 R2 = none := by
  have r25 : raceI evO2 R2 2 5 = false := by
    have := b25
    simp [raceI, evA, evO2, accB] at this ⊢
    exact this
  have ro : ∀ i j, i < j → j < 6 → ¬ (i = 2 ∧ j = 5) → raceI evO2 R2 i j = false := by
    intro i j hij hj hne
    have : (accB (evA evO2 i) && accB (evA evO2 j)) = false := by
      have key : ∀ i j : Fin 6, i < j → ¬ (i = 2 ∧ j = 5) → (accB (evA evO2 i) && accB (evA evO2 j)) = false := by decide
      exact key ⟨i, by omega⟩ ⟨j, hj⟩ hij (by
        rintro ⟨h1, h2⟩
        exact hne ⟨congrArg Fin.val h1, congrArg Fin.val h2⟩)
    unfold raceI
    cases h1 : accB (evA evO2 i) with
    | false => rfl
    | true => rw [h1] at this; have h2 : accB (evA evO2 j) = false := this; rw [h2]; rfl
  have rj : ∀ j, j < 6 → ∀ i, i ≤ j → racesJ evO2 R2 j i = [] := by
    intro j hj i
    induction i with
    | zero => intro _; rfl
    | succ i ih =>
      intro hi
      rw [racesJ_succ, ih (by omega)]
      have : raceI evO2 R2 i j = false := by
        by_cases q : i = 2 ∧ j = 5
        · rw [q.1, q.2]; exact r25
        · exact ro i j (by omega) hj q
      rw [this]; rfl
  have rn : ∀ n, n ≤ 6 → racesN evO2 R2 n = [] := by
    intro n
    induction n with
    | zero => intro _; rfl
    | succ n ih => intro hn; rw [racesN_succ, ih (by omega), rj n (by omega) n (Nat.le_refl _)]; rfl
  unfold firstV
  have : racesN evO2 R2 evO2.length = [] := rn 6 (by omega)
  rw [this]; rfl
theorem pn1 {L : Nat → Nat → Prop} {j k : Nat} (h : Pn L j 1 k) : L k j := by
  cases h with
  | succ hl hm => cases hm; exact hl
theorem pn2 {L : Nat → Nat → Prop} {j k : Nat} (h : Pn L j 2 k) : ∃ m, L k m ∧ L m j := by
  cases h with
  | succ hl hm => exact ⟨_, hl, pn1 hm⟩
theorem chain2 {l : List Nat} (h : ChainR (lk evO2 R2) 5 2 l) : l = [2, 3, 4, 5] := by
  have d4 : Di (lk evO2 R2) 5 4 1 := ⟨.succ (m := 5) (by decide) .zero, fun m hm hp => by
    have : m = 0 := by omega
    subst this; cases hp⟩
  have d3 : Di (lk evO2 R2) 5 3 2 := ⟨.succ (m := 4) (by decide) d4.1, fun m hm hp => by
    match m, hm, hp with
    | 0, _, hp => cases hp
    | 1, _, hp => exact absurd (pn1 hp) (by decide)⟩
  have d2 : Di (lk evO2 R2) 5 2 3 := ⟨.succ (m := 3) (by decide) d3.1, fun m hm hp => by
    match m, hm, hp with
    | 0, _, hp => cases hp
    | 1, _, hp => exact absurd (pn1 hp) (by decide)
    | 2, _, hp =>
      obtain ⟨m, h1, h2⟩ := pn2 hp
      have q1 := lk_lt h1
      have q2 := lk_lt h2
      have key : ∀ m : Fin 6, ¬ (lk evO2 R2 2 m ∧ lk evO2 R2 m 5) := by decide
      exact key ⟨m, by omega⟩ ⟨h1, h2⟩⟩
  have hc : ChainR (lk evO2 R2) 5 2 [2, 3, 4, 5] :=
    .step d2 (by omega) (by decide) d3 (fun m' h1 h2 => by omega) (.step d3 (by omega) (by decide) d4 (fun m' h1 h2 => by omega) (.step d4 (by omega) (by decide) Di.self (fun m' h1 h2 => by omega) .done))
  exact h.uniq hc
set_option maxHeartbeats 6400000 in
theorem lives20_ret : Ret Try.prog 17 [] w (fun v w' => v = .bool true ∧ Kp [] w w') := by
  refine enter Try.call17 Try.func17 rfl rfl rfl rfl ?_
  (repeat first|refine zA ?_|refine zg ?_|refine zo rfl rfl trivial ?_|refine zn ?_)
  refine o_build [I 2, I 1, I 0, I 1, .slice none 0 0] rfl rfl rfl rfl rfl rfl rfl ?_
  refine o_alloc rfl rfl rfl rfl ?_
  intro bs w1 hbs hu1
  refine o_storeA (cs := shC sO none 0) rfl hu1.blk (Nat.le_refl _) rfl (by simp [Value.oneCell']) rfl rfl rfl rfl ?_
  intro w2 hu2
  have k2 : Kp [] w w2 := (hu1.kp [] (.inr (by omega))).since (hu2.kp [bs] (.inl (by simp))) (by simp; omega)
  have hS2 : Blk w2 bs (shC sO none 0) 24 := hu2.blk
  (repeat first|refine zA ?_|refine zg ?_|refine zn ?_)
  refine o_loadA (vs := shC sO none 0) rfl (fun j v hv => by rw [Nat.zero_add]; exact hS2.cell hv) rfl rfl rfl rfl rfl rfl ?_
  refine o_build [I 7, I 0, I 1] rfl rfl rfl rfl rfl rfl rfl ?_
  refine o_build [I 2, I 0, I 0] rfl rfl rfl rfl rfl rfl rfl ?_
  refine o_build [I 1, I 1, I 0] rfl rfl rfl rfl rfl rfl rfl ?_
  refine o_buildSliceN (evsC evO1) rfl rfl rfl (by kernel_rfl) rfl rfl rfl rfl ?_
  intro b3 w3 hb3 hu3
  have k3 : Kp [] w2 w3 := hu3.kp [] (.inr (by omega))
  refine o_call (oNew_ret (s := sO) (l := evO1) (pad := none) (cap := 0) (ecap := 3) rfl (by decide) (ReadS.blk hu3.blk) (by decide)) rfl rfl rfl ?_
  rintro v w4 (⟨e0, hbad, _⟩ | ⟨_, _, _, g1, rfl, h4, k4, hn4⟩)
  · exact absurd hbad noBad1
  have h4 : OrAt w4 g1 evO1 R1 := h4
  have hS4 := k4.blk (by simp) (k3.blk (by simp) hS2)
  (repeat first|refine zA ?_|refine zg ?_|refine zo rfl rfl trivial ?_|refine zn ?_)
  refine o_loadA (vs := shC sO none 0) rfl (fun j v hv => by rw [Nat.zero_add]; exact hS4.cell hv) rfl rfl rfl rfl rfl rfl ?_
  refine o_build [I 7, I 0, I 1] rfl rfl rfl rfl rfl rfl rfl ?_
  refine o_build [I 5, I 0, I 0] rfl rfl rfl rfl rfl rfl rfl ?_
  refine o_build [I 2, I 0, I 0] rfl rfl rfl rfl rfl rfl rfl ?_
  refine o_build [I 6, I 0, I 0] rfl rfl rfl rfl rfl rfl rfl ?_
  refine o_build [I 5, I 1, I 0] rfl rfl rfl rfl rfl rfl rfl ?_
  refine o_build [I 1, I 1, I 0] rfl rfl rfl rfl rfl rfl rfl ?_
  refine o_buildSliceN (evsC evO2) rfl rfl rfl (by kernel_rfl) rfl rfl rfl rfl ?_
  intro b5 w5 hb5 hu5
  have k5 : Kp [] w4 w5 := hu5.kp [] (.inr (by omega))
  refine o_call (oNew_ret (s := sO) (l := evO2) (pad := none) (cap := 0) (ecap := 6) rfl (by decide) (ReadS.blk hu5.blk) (by decide)) rfl rfl rfl ?_
  rintro v w6 (⟨e0, hbad, _⟩ | ⟨_, _, _, g2, rfl, h6, k6, hn6⟩)
  · exact absurd hbad noBad2
  have h6 : OrAt w6 g2 evO2 R2 := h6
  have h61 := (h4.kp0 k5).kp0 k6
  have lt1 : ∀ b, b ∈ g1.F → b < w6.heap.size := h61.lt
  have lt2 : ∀ b, b ∈ g2.F → b < w6.heap.size := h6.lt
  (repeat first|refine zA ?_|refine zB ?_|refine zg ?_|refine zo rfl rfl trivial ?_|refine zn ?_|refine zU rfl rfl rfl ?_)
  refine o_call (num20_ret _) rfl rfl rfl ?_
  rintro v w7 ⟨rfl, rfl⟩
  (repeat first|refine zo rfl rfl trivial ?_|refine zU rfl rfl rfl ?_)
  refine o_call (num20_ret _) rfl rfl rfl ?_
  rintro v w7 ⟨rfl, rfl⟩
  (repeat first|refine zA ?_|refine zg ?_|refine zo rfl rfl trivial ?_|refine zn ?_|refine zk ?_|refine zf rfl ?_)
  refine o_call (oFirst_ret h61 lt1) rfl rfl rfl ?_
  rintro v w8 ⟨rfl, k8⟩
  rw [first1]
  simp only [Option.getD_some, Option.isSome_some]
  (repeat refine zo rfl rfl trivial ?_)
  refine o_alloc rfl rfl rfl rfl ?_
  intro bp w9 hbp hu9
  refine o_storeA (cs := [I 0, I 1, I 2]) rfl hu9.blk (Nat.le_refl _) rfl (by simp [Value.oneCell']) rfl rfl rfl rfl ?_
  intro w10 hu10
  have k10 : Kp [] w8 w10 := (hu9.kp [] (.inr (by omega))).since (hu10.kp [bp] (.inl (by simp))) (by simp; omega)
  have hP10 : Blk w10 bp [I 0, I 1, I 2] 53 := hu10.blk
  have k810 := k8.trans k10
  (repeat first|refine zA ?_|refine zg ?_|refine zo rfl rfl trivial ?_|refine zn ?_)
  refine o_call (oFirst_ret (h6.kp0 k810) (fun b hb => by have := lt2 b hb; have := k810.size; omega)) rfl rfl rfl ?_
  rintro v w11 ⟨rfl, k11⟩
  rw [first2]
  simp only [Option.getD_none, Option.isSome_none]
  (repeat refine zo rfl rfl trivial ?_)
  refine o_alloc rfl rfl rfl rfl ?_
  intro bq w12 hbq hu12
  refine o_storeA (cs := [I 0, I 0, I 0]) rfl hu12.blk (Nat.le_refl _) rfl (by simp [Value.oneCell']) rfl rfl rfl rfl ?_
  intro w13 hu13
  have k13 : Kp [] w11 w13 := (hu12.kp [] (.inr (by omega))).since (hu13.kp [bq] (.inl (by simp))) (by simp; omega)
  have k1013 := k11.trans k13
  have hP13 := k1013.blk (by simp) hP10
  have h13 := (h61.kp0 k810).kp0 k1013
  have h23 := (h6.kp0 k810).kp0 k1013
  (repeat first|refine zA ?_|refine zg ?_|refine zo rfl rfl trivial ?_|refine zn ?_|refine zT rfl rfl rfl ?_)
  refine o_loadA (vs := [I 0, I 1, I 2]) rfl (fun j v hv => by rw [Nat.zero_add]; exact hP13.cell hv) rfl rfl rfl rfl rfl rfl ?_
  refine o_build [I 0, I 1, I 2] rfl rfl rfl rfl rfl rfl rfl ?_
  refine o_eqS [0, 1, 2] [0, 1, 2] rfl rfl (by kernel_rfl) (by kernel_rfl) (by kernel_rfl) (by kernel_rfl) (by kernel_rfl) (by kernel_rfl) rfl rfl ?_
  rw [show eqInts [0, 1, 2] [0, 1, 2] = true by decide]
  (repeat first|refine zo rfl rfl trivial ?_|refine zT rfl rfl rfl ?_)
  refine o_call (oWhy_ret h13.toOrB 0 2) rfl rfl rfl ?_
  rintro v w14 ⟨rfl, k14⟩
  rw [show whyI evO1 R1 0 2 = 4 by decide]
  have h24 := h23.kp0 k14
  (repeat first|refine zo rfl rfl trivial ?_|refine zT rfl rfl rfl ?_)
  refine o_call (oBefore_ret h24 (2 : Nat) (5 : Nat)) rfl rfl rfl ?_
  rintro v w15 ⟨rfl, rfl⟩
  rw [b25]
  (repeat first|refine zo rfl rfl trivial ?_|refine zT rfl rfl rfl ?_)
  refine o_call (oAside_ret h24 (2 : Nat) (5 : Nat)) rfl rfl rfl ?_
  rintro v w16 ⟨rfl, k16⟩
  have easide : asideB evO2 R2 (2 : Nat) (5 : Nat) = false := by unfold asideB; rw [b25]; simp
  rw [easide]
  have h26 := h24.kp0 k16
  (repeat first|refine zo rfl rfl trivial ?_|refine zT rfl rfl rfl ?_)
  refine o_call (oChain_ret h26 (2 : Nat) (5 : Nat)) rfl rfl rfl ?_
  rintro v w17 (⟨hb, _⟩ | ⟨_, l, ad, cap, hl, rfl, hN⟩)
  · rw [b25] at hb; cases hb
  have hl2 := chain2 hl
  subst hl2
  refine o_buildSliceN [I 2, I 3, I 4, I 5] rfl rfl rfl (by kernel_rfl) rfl rfl rfl rfl ?_
  intro b18 w18 hb18 hu18
  have k18 : Kp [] w17 w18 := hu18.kp [] (.inr (by omega))
  refine o_call (same20_yes (l := [2, 3, 4, 5]) (hN.read.kp k18 (by simp)) (ReadS.blk hu18.blk) rfl rfl (by decide)) rfl rfl rfl ?_
  rintro v w19 ⟨rfl, hs19⟩
  (repeat first|refine zo rfl rfl trivial ?_|refine zn ?_|refine zr ?_)
  exact ⟨_, rfl, rfl, (((((((((k2.trans k3).trans k4).trans k5).trans k6).trans k810).trans k1013).trans k14).trans k16).trans hN.kp).trans (k18.trans (hs19.kp []))⟩
end Go.Vc
