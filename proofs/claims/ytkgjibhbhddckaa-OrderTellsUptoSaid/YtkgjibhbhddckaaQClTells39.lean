/- abreastref20: best, First, Pair, Flags. -/
import Derived.Test.YtkgjibhbhddckaaQClTells38
namespace Go.Vc
open Go Go.Proofs
set_option maxRecDepth 10000
variable {w : World}
/-! ### the reference's best, plainly -/
def lastS (b : P3) (L : List P3) : P3 := L.foldl (fun b x => if x.2.2 = b.2.2 then x else b) b
theorem lastS_far {b : P3} : ∀ {L : List P3}, (∀ x ∈ L, b.2.2 < x.2.2) → lastS b L = b
  | [], _ => rfl
  | x :: r, h => by
    have := h x (by simp)
    show lastS (if x.2.2 = b.2.2 then x else b) r = b
    rw [if_neg (by omega)]
    exact lastS_far fun y hy => h y (by simp [hy])
theorem bestGo_last (wb : P3 → Bool) : ∀ {L : List P3} {b : P3}, (∀ x ∈ L, b.2.2 ≤ x.2.2) → L.Pairwise (fun x y => x.2.2 ≤ y.2.2) → bestGo wb (some b) L = some (lastS b (L.filter wb))
  | [], b, _, _ => rfl
  | x :: r, b, h, hp => by
    have hx := h x (by simp)
    rw [List.pairwise_cons] at hp
    by_cases hlt : b.2.2 < x.2.2
    · rw [bestGo_stop wb b x r hlt, lastS_far]
      intro y hy
      have hy := (List.mem_filter.1 hy).1
      rcases List.mem_cons.1 hy with rfl | hy
      · exact hlt
      · have := hp.1 y hy; omega
    · rw [bestGo_step wb (some b) x r (by intro b' hb'; cases hb'; exact hlt)]
      by_cases hw : wb x = true
      · rw [if_pos hw, List.filter_cons, if_pos hw, bestGo_last wb (fun y hy => hp.1 y hy) hp.2]
        show _ = some (lastS (if x.2.2 = b.2.2 then x else b) (r.filter wb))
        rw [if_pos (by omega)]
      · rw [if_neg hw, List.filter_cons, if_neg hw, bestGo_last wb (fun y hy => by have := hp.1 y hy; omega) hp.2]
theorem bestGo_ref (wb : P3 → Bool) : ∀ {L : List P3}, L.Pairwise (fun x y => x.2.2 ≤ y.2.2) → bestGo wb none L = (match L.filter wb with | [] => none | b :: _ => some (lastS b (L.filter wb)))
  | [], _ => rfl
  | x :: r, hp => by
    rw [List.pairwise_cons] at hp
    rw [bestGo_step wb none x r (by intro b' hb'; cases hb')]
    by_cases hw : wb x = true
    · rw [if_pos hw, List.filter_cons, if_pos hw, bestGo_last wb (fun y hy => hp.1 y hy) hp.2]
      show _ = some (lastS (if x.2.2 = x.2.2 then x else x) (r.filter wb))
      rw [if_pos rfl]
    · rw [if_neg hw, List.filter_cons, if_neg hw]
      exact bestGo_ref wb hp.2
theorem races_rise (E : List Ev) (R : List Int) : (racesN E R E.length).Pairwise (fun x y => x.2.2 ≤ y.2.2) :=
  (racesN_sorted (E := E) (R := R) E.length).imp fun h => by unfold Lx at h; omega
def bestR (L : List P3) : Option P3 := match L with
  | [] => none
  | b :: _ => some (lastS b L)
theorem firstV_ref (E : List Ev) (R : List Int) : firstV E R = bestR (racesN E R E.length) := by
  unfold firstV bestR
  rw [bestGo_ref _ (races_rise E R), List.filter_eq_self.2 (fun _ _ => rfl)]
theorem pairV_ref (E : List Ev) (R : List Int) (v : Int) : pairV E R v = bestR (onV v (racesN E R E.length)) := by
  unfold pairV bestR
  rw [bestGo_ref _ (races_rise E R)]; rfl
theorem lastS_snoc (b : P3) (L : List P3) (x : P3) : lastS b (L ++ [x]) = if x.2.2 = (lastS b L).2.2 then x else lastS b L := by
  unfold lastS
  rw [List.foldl_append]; rfl
set_option maxHeartbeats 6400000 in
theorem rbest_ret {ad : Option Addr} {n cap : Nat} {L : List P3} (hr : ReadS w ad (prsC L)) (hn : L.length = n) (hl : n ≤ 4611686018427387904) : Ret Try.prog 77 [.slice ad n cap] w (fun v w' => v = .tuple #[.agg ⟨pairC ((bestR L).getD (0, 0, 0))⟩, .bool (bestR L).isSome] ∧ Kp [] w w') := by
  subst hn
  refine enterC Try.call77 Try.func77 rfl rfl rfl rfl ?_
  (repeat first|refine zA ?_|refine zg ?_)
  refine o_alloc rfl rfl rfl rfl ?_
  intro bs w1 hbs hu1
  have k1 : Kp [] w w1 := hu1.kp [] (.inr (by omega))
  have z1 := hu1.lt
  (repeat first|refine zA ?_|refine zB ?_|refine zg ?_|refine zo rfl rfl trivial ?_|refine zn ?_)
  cases L with
  | nil =>
    refine r_yes rfl (by simp) ?_
    (repeat first|refine zA ?_|refine zg ?_)
    refine o_build [I 0, I 0, I 0] rfl rfl rfl rfl rfl rfl rfl ?_
    refine o_storeA (cs := [I 0, I 0, I 0]) rfl hu1.blk (Nat.le_refl _) rfl (by simp [Value.oneCell']) rfl rfl rfl rfl ?_
    intro w3 hu3
    have k3 : Kp [] w w3 := k1.since (hu3.kp [bs] (.inl (by simp))) (by simp; omega)
    have hB3 : Blk w3 bs (pairC (0, 0, 0)) 53 := hu3.blk
    (repeat first|refine zo rfl rfl trivial ?_|refine zn ?_|refine zr ?_)
    exact ⟨[.agg ⟨pairC (0, 0, 0)⟩, .bool false], ⟨⟨_, rfl, run_loadB hB3 rfl rfl rfl rfl⟩, ⟨_, rfl⟩, trivial⟩, rfl, k3⟩
  | cons b0 rest =>
    generalize hL : b0 :: rest = L at *
    have hne : 0 < L.length := by rw [← hL]; simp
    have h0 : L[0]? = some b0 := by rw [← hL]; rfl
    have hb : bestR L = some (lastS b0 L) := by rw [← hL]; rfl
    rw [hb]
    refine r_no rfl (decide_eq_false (by omega)) ?_
    obtain ⟨b3, o3, rfl, hb3, hcell⟩ := hr.at_ (by rw [prsC_len]; omega)
    have hce : ∀ W, Kp [] w1 W → ∀ (k : Nat) x, L[k]? = some x → ∀ j v, (pairC x)[j]? = some v → W.cell? ⟨b3, o3 + k * 3 + j, none⟩ = some v := fun W k' k x hx j v hv => by
      rw [Nat.add_assoc, ← hcell _ _ (prsC_get hx hv)]
      exact World.cell?_of_block ((k1.trans k').at_ b3 hb3 (by simp))
    (repeat first|refine zA ?_|refine zg ?_|refine zo rfl rfl (by first|exact trivial|(simp only[AllP];omega)) ?_|refine zk ?_)
    refine o_loadA (b := b3) (off := o3 + 0 * 3) (vs := pairC b0) rfl (hce _ (Kp.refl _ _) 0 b0 h0) rfl rfl rfl rfl rfl rfl ?_
    refine o_alloc rfl rfl rfl rfl ?_
    intro bb w2 hbb hu2
    refine o_storeA (cs := pairC b0) rfl hu2.blk (Nat.le_refl _) rfl (by simp [Value.oneCell']) rfl rfl rfl rfl ?_
    intro w3 hu3
    have k3 : Kp [] w1 w3 := (hu2.kp [] (.inr (by omega))).since (hu3.kp [bb] (.inl (by simp))) (by simp; omega)
    have hB3 : Blk w3 bb (pairC b0) 53 := hu3.blk
    (repeat first|refine zA ?_|refine zB ?_|refine zg ?_|refine zo rfl rfl trivial ?_|refine zn ?_|refine zb ?_)
    refine r_loop (α := Nat) [0, 2, 4, 5] (fun i => [.slice (some ⟨b3, o3, none⟩) L.length cap, ptr bs, ptr bb, I i]) (fun i W => i ≤ L.length ∧ Kp [] w1 W ∧ Blk W bb (pairC (lastS b0 (L.take i))) 53) (fun i => L.length - i) 0 rfl ⟨by omega, k3, hB3⟩ ?_
    rintro i e W ⟨hi, kW, hB⟩
    (repeat first|refine zA ?_|refine zB ?_|refine zg ?_|refine zo rfl rfl trivial ?_|refine zn ?_)
    refine r_if rfl (fun hc => ?_) (fun hc => ?_)
    · have hlt : i < L.length := by omega
      obtain ⟨x, hx⟩ : ∃ x, L[i]? = some x := ⟨_, List.getElem?_eq_getElem hlt⟩
      have hsn : lastS b0 (L.take (i + 1)) = if x.2.2 = (lastS b0 (L.take i)).2.2 then x else lastS b0 (L.take i) := by rw [List.take_add_one, hx]; exact lastS_snoc _ _ _
      (repeat first|refine zC ?_|refine zb ?_|refine zk ?_)
      refine r_seq ?_
      refine r_quietS follows_mixed (by kernel_rfl) ?_
      (repeat refine yo rfl rfl (by first|exact trivial|(simp only[AllP];omega)) ?_)
      refine q_load (b := b3) (off := o3 + i * 3 + 2) (v := I (x.2.2 : Int)) rfl (fun W' s => hce W' (kW.trans (s.kp [])) i x hx 2 _ rfl) rfl rfl rfl rfl ?_
      (repeat refine yo rfl rfl trivial ?_)
      refine q_load (v := I ((lastS b0 (L.take i)).2.2 : Int)) rfl (fun W' s => (s.blk hB).cell rfl) rfl rfl rfl rfl ?_
      (repeat first|refine yo rfl rfl trivial ?_|refine yn ?_)
      intro W2 s2
      have k2 := kW.trans (s2.kp [])
      have hB2 := s2.blk hB
      refine r_if (p := (x.2.2 : Int) = ((lastS b0 (L.take i)).2.2 : Int)) rfl (fun hq => ?_) (fun hq => ?_)
      · rw [if_pos (by omega)] at hsn
        (repeat first|refine zg ?_|refine zo rfl rfl (by first|exact trivial|(simp only[AllP];omega)) ?_)
        refine o_loadA (b := b3) (off := o3 + i * 3) (vs := pairC x) rfl (hce W2 k2 i x hx) rfl rfl rfl rfl rfl rfl ?_
        refine o_storeA (cs := pairC x) rfl hB2 (Nat.le_refl _) rfl (by simp [Value.oneCell']) rfl rfl rfl rfl ?_
        intro W3 hu4
        have k4 := k2.since (hu4.kp [bb] (.inl (by simp))) (by have := k1.size; simp; omega)
        have hB4 : Blk W3 bb (pairC x) 53 := hu4.blk
        (repeat first|refine zg ?_|refine zo rfl rfl (by first|exact trivial|(simp only[AllP];omega)) ?_|refine zn ?_)
        exact ⟨i + 1, rfl, ⟨by omega, k4, by rw [hsn]; exact hB4⟩, by omega⟩
      · rw [if_neg (by omega)] at hsn
        (repeat first|refine zg ?_|refine zo rfl rfl (by first|exact trivial|(simp only[AllP];omega)) ?_|refine zn ?_|refine zk ?_)
        exact ⟨i + 1, rfl, ⟨by omega, k2, by rw [hsn]; exact hB2⟩, by omega⟩
    · have : i = L.length := by omega
      subst this
      rw [List.take_length] at hB
      have hS := kW.blk (by simp) hu1.blk
      (repeat first|refine zA ?_|refine zg ?_|refine ze rfl ?_)
      refine o_loadA (vs := pairC (lastS b0 L)) rfl (fun j v hv => by rw [Nat.zero_add]; exact hB.cell hv) rfl rfl rfl rfl rfl rfl ?_
      refine o_storeA (cs := pairC (lastS b0 L)) rfl hS (Nat.le_refl _) rfl (by simp [Value.oneCell']) rfl rfl rfl rfl ?_
      intro w5 hu5
      have k5 : Kp [] w w5 := (k1.trans kW).since (hu5.kp [bs] (.inl (by simp))) (by simp; omega)
      have hB5 : Blk w5 bs (pairC (lastS b0 L)) 53 := hu5.blk
      (repeat first|refine zo rfl rfl trivial ?_|refine zn ?_|refine zr ?_)
      exact ⟨[.agg ⟨pairC (lastS b0 L)⟩, .bool true], ⟨⟨_, rfl, run_loadB hB5 rfl rfl rfl rfl⟩, ⟨_, rfl⟩, trivial⟩, rfl, k5⟩
section
variable {pb : Option Addr} {E : List Ev} {R : List Int}
theorem yFirst_ret (h : RaV w (.pointer pb) E R) : Ret Try.prog 41 [.pointer pb] w (fun v w' => v = .tuple #[.agg ⟨pairC ((firstV E R).getD (0, 0, 0))⟩, .bool (firstV E R).isSome] ∧ Kp [] w w') := by
  have hsm := racesN_small R h.small
  refine enterC Try.call41 Try.func41 rfl rfl rfl rfl ?_
  (repeat first|refine zA ?_|refine zg ?_)
  refine o_alloc rfl rfl rfl rfl ?_
  intro bs w1 hbs hu1
  have k1 : Kp [] w w1 := hu1.kp [] (.inr (by omega))
  (repeat first|refine zA ?_|refine zg ?_|refine zo rfl rfl trivial ?_|refine zn ?_)
  refine o_call (yAll_ret (h.kp0 k1)) rfl rfl rfl ?_
  rintro q w2 ⟨ad, cap, rfl, ho, k2, _⟩
  refine o_call (rbest_ret ho.readN rfl (by omega)) rfl rfl rfl ?_
  rintro q w3 ⟨rfl, k3⟩
  rw [← firstV_ref]
  have hS := (k2.trans k3).blk (by simp) hu1.blk
  (repeat refine zo rfl rfl trivial ?_)
  refine o_storeA (cs := pairC ((firstV E R).getD (0, 0, 0))) rfl hS (Nat.le_refl _) rfl (by simp [Value.oneCell']) rfl rfl rfl rfl ?_
  intro w5 hu5
  have k5 : Kp [] w w5 := (k1.trans (k2.trans k3)).since (hu5.kp [bs] (.inl (by simp))) (by simp; omega)
  have hB5 : Blk w5 bs (pairC ((firstV E R).getD (0, 0, 0))) 53 := hu5.blk
  (repeat first|refine zo rfl rfl trivial ?_|refine zn ?_|refine zr ?_)
  exact ⟨[.agg ⟨pairC ((firstV E R).getD (0, 0, 0))⟩, .bool (firstV E R).isSome], ⟨⟨_, rfl, run_loadB hB5 rfl rfl rfl rfl⟩, ⟨_, rfl⟩, trivial⟩, rfl, k5⟩
theorem yPair_ret (h : RaV w (.pointer pb) E R) (v : Int) : Ret Try.prog 42 [.pointer pb, I v] w (fun r w' => r = .tuple #[.agg ⟨pairC ((pairV E R v).getD (0, 0, 0))⟩, .bool (pairV E R v).isSome] ∧ Kp [] w w') := by
  have hsm := racesN_small R h.small
  have hle := onV_le v (racesN E R E.length)
  refine enterC Try.call42 Try.func42 rfl rfl rfl rfl ?_
  (repeat first|refine zA ?_|refine zg ?_)
  refine o_alloc rfl rfl rfl rfl ?_
  intro bs w1 hbs hu1
  have k1 : Kp [] w w1 := hu1.kp [] (.inr (by omega))
  (repeat first|refine zA ?_|refine zg ?_|refine zo rfl rfl trivial ?_|refine zn ?_)
  refine o_call (yRaces_ret (h.kp0 k1) v) rfl rfl rfl ?_
  rintro q w2 ⟨ad, cap, rfl, ho, k2, _⟩
  refine o_call (rbest_ret ho.readN rfl (by omega)) rfl rfl rfl ?_
  rintro q w3 ⟨rfl, k3⟩
  rw [← pairV_ref]
  have hS := (k2.trans k3).blk (by simp) hu1.blk
  (repeat refine zo rfl rfl trivial ?_)
  refine o_storeA (cs := pairC ((pairV E R v).getD (0, 0, 0))) rfl hS (Nat.le_refl _) rfl (by simp [Value.oneCell']) rfl rfl rfl rfl ?_
  intro w5 hu5
  have k5 : Kp [] w w5 := (k1.trans (k2.trans k3)).since (hu5.kp [bs] (.inl (by simp))) (by simp; omega)
  have hB5 : Blk w5 bs (pairC ((pairV E R v).getD (0, 0, 0))) 53 := hu5.blk
  (repeat first|refine zo rfl rfl trivial ?_|refine zn ?_|refine zr ?_)
  exact ⟨[.agg ⟨pairC ((pairV E R v).getD (0, 0, 0))⟩, .bool (pairV E R v).isSome], ⟨⟨_, rfl, run_loadB hB5 rfl rfl rfl rfl⟩, ⟨_, rfl⟩, trivial⟩, rfl, k5⟩
end
end Go.Vc
