/- order: OrderBegins. -/
import Derived.Test.YtkgjibhbhddckaaQClBegins31
import Derived.Test.YtkgjibhbhddckaaQClBegins13
import Derived.Deep.Slices
import Derived.ChangeArms
namespace Go.Vc
open Go Go.Proofs
set_option maxRecDepth 10000
variable {w : World}
set_option maxHeartbeats 12800000 in
theorem orderBegins_ret {s : Shp} {l : List Ev} {pad ead : Option Addr} {cap ecap : Nat} (n : Int) (hr : ReadS w pad (s.pa.map I)) (hpl : s.pa.length ≤ 1048576) (he : ReadS w ead (evsC l)) (hl : l.length ≤ 1048576) (hcp : l.length ≤ ecap) :
    Ret Try.prog 4 [.agg ⟨shC s pad cap⟩, .slice ead l.length ecap, I n] w (fun v w' => v = .bool true ∧ Kp [] w w') := by
  refine enter Try.call4 Try.func4 rfl rfl rfl rfl ?_
  (repeat first|refine zA ?_|refine zg ?_)
  refine o_box rfl rfl rfl ?_
  intro bx w1 hbx hu1
  have hB1 : Blk w1 bx (shC s pad cap) 24 := hu1.blk
  have k1 : Kp [] w w1 := hu1.kp [] (.inr (by omega))
  (repeat first|refine zA ?_|refine zB ?_|refine zg ?_|refine zo rfl rfl trivial ?_|refine zn ?_)
  refine o_call lives20_ret rfl rfl rfl ?_
  rintro v w2 ⟨rfl, k2⟩
  have hB2 := k2.blk (by simp) hB1
  have k02 := k1.trans k2
  clear hu1 hB1 hbx
  (repeat first|refine zA ?_|refine zB ?_|refine zg ?_|refine zo rfl rfl trivial ?_|refine zn ?_|refine zk ?_|refine zf rfl ?_)
  refine o_bool [1, 2, 3] [.slice ead l.length ecap, I n, ptr bx] 25 (decide (n < 0) || decide ((l.length : Int) < n)) (fun w' => w' = w2) ?_ ?_
  · by_cases h0 : n < 0
    · refine o_is true 2 false rfl rfl rfl (by simp [h0]) ?_
      (repeat first|refine zo rfl rfl trivial ?_|refine zn ?_)
      exact ⟨rfl, ⟨_, rfl, by simp [h0]⟩, rfl⟩
    · refine o_is false 2 false rfl rfl rfl (by simp [h0]) ?_
      (repeat first|refine zo rfl rfl trivial ?_|refine zn ?_)
      exact ⟨rfl, ⟨_, rfl, by simp [h0]⟩, rfl⟩
  rintro e w3 rfl
  refine r_cut (α := Nat) [1, 2, 3] (fun N => [.slice ead l.length ecap, I N, ptr bx]) (fun N W => W = w3 ∧ N ≤ l.length) ?_ ?_
  · cases hb : (decide (n < 0) || decide ((l.length : Int) < n)) with
    | true =>
      refine r_yes rfl rfl ?_
      (repeat first|refine zg ?_|refine zo rfl rfl trivial ?_|refine zn ?_)
      exact ⟨l.length, rfl, rfl, Nat.le_refl _⟩
    | false =>
      refine r_no rfl rfl ?_
      simp only [Bool.or_eq_false_iff, decide_eq_false_iff_not] at hb
      (repeat refine zk ?_)
      refine ⟨n.toNat, ?_, rfl, by omega⟩
      rw [show ((n.toNat : Nat) : Int) = n by omega]; rfl
  rintro N e w4 ⟨rfl, hN⟩
  have hr4 := hr.kp k02 (by simp)
  have he4 := he.kp k02 (by simp)
  (repeat first|refine zA ?_|refine zg ?_)
  refine o_loadA (vs := shC s pad cap) rfl (fun j v hv => by rw [Nat.zero_add]; exact hB2.cell hv) rfl rfl rfl rfl rfl rfl ?_
  (repeat refine zo rfl rfl trivial ?_)
  refine o_call (oNew_ret hr4 hpl he4 hl) rfl rfl rfl ?_
  rintro v w5 (⟨e5, hbad, rfl, k5⟩ | ⟨hs, hl2, hok, g, rfl, hO, k5, _⟩)
  · have hne := badO_ne hbad
    (repeat first|refine zA ?_|refine zB ?_|refine zg ?_|refine zo rfl rfl trivial ?_|refine zn ?_)
    refine r_yes rfl (by simp; omega) ?_
    (repeat first|refine zA ?_|refine zg ?_|refine zo rfl rfl trivial ?_|refine zn ?_|refine zr ?_)
    exact ⟨_, rfl, rfl, k02.trans k5⟩
  have hB5 := k5.blk (by simp) hB2
  have k05 := k02.trans k5
  have hlt := take_len (l := l) hN
  have hokN := okTo_take (n := N) hok
  have heN : ReadS w5 ead (evsC (l.take N)) := by rw [evsC_take]; exact (he.kp k05 (by simp)).take _
  have hr5 := hr.kp k05 (by simp)
  (repeat first|refine zA ?_|refine zB ?_|refine zg ?_|refine zo rfl rfl trivial ?_|refine zn ?_|refine zk ?_|refine zf rfl ?_)
  refine r_seq ?_
  refine r_mix (fun w' => Kp [] w5 w') [(0, false), (1, false), (2, false), (3, false), (4, true), (5, false), (6, false), (7, false), (8, false), (9, false)] follows_mixed (by kernel_rfl) (by kernel_rfl) (by kernel_rfl) ((Sm.drew w5).kp _) ?_
  have kd := (Sm.drew w5).kp []
  generalize ({ w5 with drawn := w5.drawn + 1 } : World) = wd at kd ⊢
  refine x_loadA (vs := shC s pad cap) rfl rfl (fun w' h' j v hv => by rw [Nat.zero_add]; exact (h'.blk (by simp) hB5).cell hv) rfl rfl rfl rfl rfl rfl ?_
  (repeat refine xo rfl rfl (by first|exact trivial|(simp only[AllP];omega)) ?_)
  refine x_act rfl ?_
  refine o_call (oNew_ret (l := l.take N) (ecap := ecap) (hr5.kp kd (by simp)) hpl (heN.kp kd (by simp)) (by omega)) (by rw [hlt]; rfl) rfl rfl ?_
  rintro v w6 (⟨e6, hbad, _⟩ | ⟨_, _, _, g2, rfl, hP, k6, _⟩)
  · exact (badO_not hbad hs (by omega) hokN).elim
  have k56 := kd.trans k6
  refine o_nil ⟨.inr k56, ?_⟩
  have hO6 := hO.kp0 k56
  have k06 := k05.trans k56
  (repeat first|refine xo rfl rfl trivial ?_|refine xn ?_)
  have hxO : ∀ W, Kp [] w6 W → OX W (some ⟨g.p, 0, none⟩) g.F l (rnds s l l.length) := fun W k => .inr ⟨g, rfl, rfl, hO6.kp0 k⟩
  have hxP : ∀ W, Kp [] w6 W → OX W (some ⟨g2.p, 0, none⟩) g2.F (l.take N) (rnds s (l.take N) (l.take N).length) := fun W k => .inr ⟨g2, rfl, rfl, hP.kp0 k⟩
  clear hO hO6 hP
  (repeat first|refine zA ?_|refine zB ?_|refine zg ?_|refine zo rfl rfl trivial ?_|refine zU rfl rfl rfl ?_)
  refine o_call (xLen_ret (hxP _ (Kp.refl _ _))) rfl rfl rfl ?_
  rintro v w7 ⟨rfl, rfl⟩
  rw [hlt]
  (repeat refine zo rfl rfl trivial ?_)
  refine o_is false 16 false rfl rfl rfl (by simp) ?_
  (repeat refine zo rfl rfl trivial ?_)
  refine o_call (xFlags_ret sortF (hxP _ (Kp.refl _ _)) (races_var hs hokN) N) rfl rfl rfl ?_
  rintro v w8 ⟨ad8, cap8, rfl, ho8, k8, _⟩
  (repeat refine zo rfl rfl trivial ?_)
  refine o_call (xFlags_ret sortF (hxO _ k8) (races_var hs hok) N) rfl rfl rfl ?_
  rintro v w9 ⟨ad9, cap9, rfl, ho9, k9, _⟩
  rw [flags_take hN] at ho8 ⊢
  have hfl : (flagsV l (rnds s l l.length) N).length ≤ 4194304 := by
    have h1 := (flgGo_perm N (racesN l (rnds s l l.length) l.length) [] [] (.refl _)).length_eq
    have h2 := flgGo_le N (racesN l (rnds s l l.length) l.length) []
    have h3 := racesN_small (rnds s l l.length) hl2
    unfold flagsV
    rw [← h1]; simp at h2; omega
  refine o_call (sameFlags20_yes (l := flagsV l (rnds s l l.length) N) (ho8.kp k9 (by simp)).readN ho9.readN rfl rfl (by omega)) rfl rfl rfl ?_
  rintro v w10 ⟨rfl, s10⟩
  have k610 : Kp [] w7 w10 := (k8.trans k9).trans (s10.kp [])
  clear ho8 ho9 k8 k9 s10
  (repeat first|refine zA ?_|refine zB ?_|refine zg ?_|refine zo rfl rfl trivial ?_|refine zn ?_|refine zb ?_|refine zk ?_|refine zf rfl ?_)
  refine r_loop (α := Nat) [2, 7, 9, 11] (fun i => [I N, ptr g.p, ptr g2.p, I i]) (fun i W => i ≤ N ∧ Kp [] w7 W) (fun i => N - i) 0 rfl ⟨by omega, k610⟩ ?_
  rintro i e W ⟨hi, kW⟩
  (repeat first|refine zA ?_|refine zB ?_|refine zg ?_|refine zo rfl rfl trivial ?_|refine zn ?_)
  refine r_if rfl (fun hc => ?_) (fun hc => ?_)
  · (repeat first|refine zA ?_|refine zC ?_|refine zg ?_|refine zo rfl rfl trivial ?_|refine zn ?_|refine zb ?_|refine zk ?_)
    refine r_loop (α := Nat) [2, 7, 9, 11, 12] (fun j => [I N, ptr g.p, ptr g2.p, I i, I j]) (fun j W => j ≤ N ∧ Kp [] w7 W) (fun j => N - j) 0 rfl ⟨by omega, kW⟩ ?_
    rintro j e W2 ⟨hj, kW2⟩
    (repeat first|refine zA ?_|refine zB ?_|refine zg ?_|refine zo rfl rfl trivial ?_|refine zn ?_)
    refine r_if rfl (fun hc2 => ?_) (fun hc2 => ?_)
    · (repeat first|refine zA ?_|refine zC ?_|refine zg ?_|refine zo rfl rfl trivial ?_|refine zb ?_|refine zk ?_)
      refine o_call (xWhy_ret (hxP _ kW2) i j) rfl rfl rfl ?_
      rintro v W3 ⟨rfl, k3⟩
      have k3 := kW2.trans k3
      (repeat refine zo rfl rfl trivial ?_)
      refine o_call (xWhy_ret (hxO _ k3) i j) rfl rfl rfl ?_
      rintro v W4 ⟨rfl, k4⟩
      have k4 := k3.trans k4
      rw [whyI_take hN (by omega)]
      (repeat refine zo rfl rfl trivial ?_)
      refine o_is false 9 false rfl rfl rfl (by simp) ?_
      (repeat refine zo rfl rfl trivial ?_)
      refine o_call (xBefore_ret (hxP _ k4) i j) rfl rfl rfl ?_
      rintro v W5 ⟨rfl, rfl⟩
      (repeat refine zo rfl rfl trivial ?_)
      refine o_call (xBefore_ret (hxO _ k4) i j) rfl rfl rfl ?_
      rintro v W6 ⟨rfl, rfl⟩
      rw [befI_take hN (by omega)]
      (repeat first|refine zo rfl rfl trivial ?_|refine zn ?_)
      refine r_no rfl (by simp) ?_
      (repeat first|refine zg ?_|refine zo rfl rfl (by first|exact trivial|(simp only[AllP];omega)) ?_|refine zn ?_|refine zk ?_)
      exact ⟨j + 1, rfl, ⟨by omega, k4⟩, by omega⟩
    · (repeat first|refine zg ?_|refine zo rfl rfl (by first|exact trivial|(simp only[AllP];omega)) ?_|refine zn ?_|refine ze rfl ?_)
      exact ⟨i + 1, rfl, ⟨by omega, kW2⟩, by omega⟩
  (repeat first|refine zA ?_|refine zg ?_|refine zo rfl rfl trivial ?_|refine zn ?_|refine ze rfl ?_)
  refine o_call (xAll_ret (hxO _ kW)) rfl rfl rfl ?_
  rintro v W2 ⟨bx2, hseq, k2', _⟩
  have k2w := kW.trans k2'
  have hq := hseq.is
  obtain ⟨fi, lb, rfl, _⟩ := hq
  have hrl := racesN_small (rnds s l l.length) hl2
  refine o_call (gone20_ret hseq hrl (-1)) rfl rfl rfl ?_
  rintro v W3 ⟨ad3, cap3, rfl, ho3, k3, _⟩
  rw [gonP_all] at ho3 ⊢
  have k3w := k2w.trans k3
  generalize hL : racesN l (rnds s l l.length) l.length = L at ho3 hrl ⊢
  (repeat first|refine zA ?_|refine zB ?_|refine zg ?_|refine zo rfl rfl trivial ?_|refine zn ?_|refine zb ?_)
  refine r_loop (α := Nat × Option Addr × Nat) [2, 9, 13, 14, 15] (fun x => [I N, ptr g2.p, .slice x.2.1 ((L.take x.1).filter fun y => decide ((y.2.2 : Int) < N)).length x.2.2, .slice ad3 L.length cap3, I x.1])
    (fun x W => x.1 ≤ L.length ∧ OwnS W 53 3 x.2.1 ((L.take x.1).filter fun y => decide ((y.2.2 : Int) < N)).length x.2.2 (prsC ((L.take x.1).filter fun y => decide ((y.2.2 : Int) < N))) ∧ Kp [] W3 W ∧ ∀ b, b ∈ blkOf x.2.1 → W3.heap.size ≤ b) (fun x => L.length - x.1) (0, none, 0) rfl ⟨by omega, ownS_nil _ _ _, Kp.refl _ _, by simp [blkOf]⟩ ?_
  rintro ⟨i, ax, cx⟩ e W4 ⟨hiL, ho4, k4, hn4⟩
  dsimp only at hiL ho4 hn4 ⊢
  have hfle : ((L.take i).filter fun y => decide ((y.2.2 : Int) < N)).length ≤ i := by
    refine Nat.le_trans (List.length_filter_le _ _) ?_
    rw [List.length_take]; omega
  (repeat first|refine zA ?_|refine zB ?_|refine zg ?_|refine zo rfl rfl trivial ?_|refine zn ?_)
  refine r_if rfl (fun hc => ?_) (fun hc => ?_)
  · have hlt2 : i < L.length := by omega
    obtain ⟨x, hx⟩ : ∃ x, L[i]? = some x := ⟨_, List.getElem?_eq_getElem hlt2⟩
    have hsucc : (L.take (i + 1)).filter (fun y => decide ((y.2.2 : Int) < N)) = (L.take i).filter (fun y => decide ((y.2.2 : Int) < N)) ++ (if (x.2.2 : Int) < N then [x] else []) := by
      rw [List.take_add_one, hx, List.filter_append]
      congr 1
      by_cases hxn : (x.2.2 : Int) < N
      · rw [if_pos hxn]; simp; omega
      · rw [if_neg hxn]; simp; omega
    obtain ⟨b3, o3, rfl, _, hcell⟩ := (ho3.readN.kp k4 (by simp)).at_ (by rw [prsC_len]; omega)
    (repeat first|refine zA ?_|refine zC ?_|refine zg ?_|refine zo rfl rfl (by first|exact trivial|(simp only[AllP];omega)) ?_|refine zb ?_|refine zk ?_)
    refine o_loadc (b := b3) (off := o3 + i * 3 + 2) (v := I (x.2.2 : Int)) rfl (by rw [Nat.add_assoc]; exact hcell _ _ (prsC_get hx rfl)) rfl rfl rfl rfl ?_
    (repeat first|refine zo rfl rfl trivial ?_|refine zn ?_)
    refine r_if (p := (x.2.2 : Int) < N) rfl (fun hxn => ?_) (fun hxn => ?_)
    · rw [if_pos hxn] at hsucc
      (repeat first|refine zg ?_|refine zo rfl rfl (by first|exact trivial|(simp only[AllP];omega)) ?_)
      refine o_loadA (b := b3) (off := o3 + i * 3) (vs := pairC x) rfl (fun j v hv => by rw [Nat.add_assoc]; exact hcell _ _ (prsC_get hx hv)) rfl rfl rfl rfl rfl rfl ?_
      refine o_buildSliceN (pairC x) rfl rfl rfl (by kernel_rfl) rfl rfl rfl rfl ?_
      intro b9 W5 hb9 hu9
      have k9 : Kp [] W4 W5 := hu9.kp [] (.inr (by omega))
      refine o_append (pairC x) rfl rfl (ho4.kp k9 (by simp)) (fun j v hv => by rw [addr_lit, Nat.zero_add]; exact hu9.blk.cell hv) rfl rfl rfl (by omega) rfl (by omega) (by simp [Value.oneCell']) (by simp only [maxLen]; omega) (by omega) rfl rfl ?_
      intro ad' cap' W6 ho6 k6 hn6
      have z4 := k4.size
      have z9 := k9.size
      (repeat first|refine zg ?_|refine zo rfl rfl (by first|exact trivial|(simp only[AllP];omega)) ?_|refine zn ?_)
      refine ⟨(i + 1, ad', cap'), by dsimp only; rw [hsucc, List.length_append]; rfl, ⟨by dsimp only; omega, ?_, (k4.trans k9).since k6 hn4, fun b hb => ?_⟩, by dsimp only; omega⟩
      · dsimp only
        rw [hsucc, List.length_append, prsC_snoc]; exact ho6
      · rcases hn6 b hb with q | q
        · exact hn4 b q
        · omega
    · rw [if_neg hxn, List.append_nil] at hsucc
      (repeat first|refine zg ?_|refine zo rfl rfl (by first|exact trivial|(simp only[AllP];omega)) ?_|refine zn ?_|refine zk ?_)
      exact ⟨(i + 1, ax, cx), by dsimp only; rw [hsucc]; rfl, ⟨by dsimp only; omega, by dsimp only; rw [hsucc]; exact ho4, k4, hn4⟩, by dsimp only; omega⟩
  have hiL2 : i = L.length := by omega
  subst hiL2
  rw [List.take_length] at ho4 hfle ⊢
  have hfin : L.filter (fun y => decide ((y.2.2 : Int) < N)) = racesN (l.take N) (rnds s (l.take N) (l.take N).length) (l.take N).length := by
    rw [← hL, races_filter (n := N) hN, racesN_take hN (by omega), hlt]
  have k4w := k3w.trans k4
  (repeat first|refine zA ?_|refine zg ?_|refine zo rfl rfl trivial ?_|refine ze rfl ?_)
  refine o_call (xAll_ret (hxP _ k4w)) rfl rfl rfl ?_
  rintro v W5 ⟨bx5, hseq5, k5', _⟩
  have hq5 := hseq5.is
  obtain ⟨fi5, lb5, rfl, _⟩ := hq5
  refine o_call (gone20_ret hseq5 (by rw [← hfin]; omega) (-1)) rfl rfl rfl ?_
  rintro v W6 ⟨ad6, cap6, rfl, ho6, k6', _⟩
  rw [gonP_all, ← hfin] at ho6 ⊢
  (repeat refine zo rfl rfl trivial ?_)
  refine o_call (samePairs_yes (l := L.filter fun y => decide ((y.2.2 : Int) < N)) ho6.readN ((ho4.kp k5' (by simp)).kp k6' (by simp)).readN rfl rfl (by omega)) rfl rfl rfl ?_
  rintro v W7 ⟨rfl, s7⟩
  (repeat first|refine zo rfl rfl trivial ?_|refine zn ?_|refine zr ?_)
  exact ⟨_, rfl, rfl, k06.trans (((k4w.trans k5').trans k6').trans (s7.kp []))⟩
end Go.Vc
/- What came in: slices of structs, read cell by cell. -/
namespace Go.Vc
open Go
variable {H : Type} {enc : TypeId × Value → H} {P : Program} {w : World} {base : Nat} {spare : Nat → Bool} {held : Bool}

/-- one cell that is an integer -/
theorem trod_int {t : TypeId} {k : IntKind} {fuel : Nat} {v : Value} {x : DataW H × List MemPlace} (ht : P.underlying t = some (.int k)) (h : DataW.trod enc P w base spare held fuel t [v] = some x) : ∃ z, v = .int k z ∧ (Lit.int k z).wf = true := by
  cases fuel with
  | zero => simp [DataW.trod] at h
  | succ n =>
    unfold DataW.trod at h
    rw [ht] at h
    cases v <;> simp at h
    obtain ⟨⟨rfl, hw⟩, _⟩ := h
    exact ⟨_, rfl, hw⟩
/-- a slice of structs of m cells: its elements' cells; each element has its own reading -/
theorem trod_recs {t e : TypeId} {m : Nat} {fuel : Nat} {a : Option Addr} {len cap : Nat} {x : DataW H × List MemPlace} (ht : P.underlying t = some (.slice e)) (hm : P.cellsOf e = m) (h : DataW.trod enc P w base spare held fuel t [.slice a len cap] = some x) :
    ∃ (n : Nat) (Cs : List (List Value)) (D : List (DataW H)), Cs.length = len ∧ D.length = len ∧ ReadS w a Cs.flatten ∧ (∀ (i : Nat) (cs : List Value), Cs[i]? = some cs → cs.length = m ∧ ∃ (d : DataW H) (p : List MemPlace), D[i]? = some d ∧ DataW.trod enc P w base spare held n e cs = some (d, p)) ∧ (x.1 = .nil ∧ D = [] ∨ ∃ sp, x.1 = .slice D sp) ∧ len ≤ cap ∧ cap ≤ maxLen := by
  rcases Go.Deep.open_slice ht h with ⟨hc, rfl⟩ | ⟨a', len', cap', mm, n, D, Pl, hc, _, hl, hcap, hmm, rfl, hx⟩
  · simp at hc
    obtain ⟨rfl, rfl, rfl⟩ := hc
    exact ⟨0, [], [], rfl, rfl, rfl, fun i cs h => by simp at h, .inl ⟨rfl, rfl⟩, Nat.le_refl _, Nat.zero_le _⟩
  · simp at hc
    obtain ⟨rfl, rfl, rfl⟩ := hc
    have hle : len ≤ mm := by rw [hmm]; split <;> omega
    rw [hm] at hx
    have key : ∀ k, k ≤ len → ∃ Cs : List (List Value), Cs.length = k ∧ ReadS w (some a') Cs.flatten ∧ Cs.flatten.length = k * m ∧ ∀ (i : Nat) (cs : List Value), Cs[i]? = some cs → cs.length = m ∧ DataW.trod enc P w base spare held n e cs = some (D i, Pl i) := by
      intro k
      induction k with
      | zero => intro _; exact ⟨[], rfl, (fun i v h => by simp at h), by simp, fun i cs h => by simp at h⟩
      | succ k ih =>
        intro hk
        obtain ⟨Cs, h1, h2, h3, h4⟩ := ih (by omega)
        obtain ⟨cs', g1, g2⟩ := hx k (by omega)
        obtain ⟨_, g3, g4⟩ := World.cells?_some g1
        refine ⟨Cs ++ [cs'], by simp [h1], fun i v hv => ?_, ?_, fun i cs hcs => ?_⟩
        · rw [List.flatten_append] at hv
          by_cases hi : i < k * m
          · rw [List.getElem?_append_left (by omega)] at hv
            exact h2 i v hv
          · rw [List.getElem?_append_right (by omega), h3] at hv
            simp at hv
            have hlt : i - k * m < m := by have := (List.getElem?_eq_some_iff.1 hv).1; omega
            have := g4 _ hlt
            rw [hv] at this
            rw [← this]
            have hi' : k * m ≤ i := by omega
            have ea : (a'.add (k * m)).add (i - k * m) = a'.add i := by
              generalize k * m = z at hi'
              unfold Addr.add
              by_cases h0 : z = 0
              · subst h0; simp
              · by_cases h1 : i - z = 0
                · have : i = z := by omega
                  subst this; simp
                · rw [if_neg h0, if_neg h1, if_neg (by omega)]
                  simp; omega
            rw [ea]
        · rw [List.flatten_append, List.length_append, h3]; simp [g3, Nat.succ_mul]
        · by_cases hi : i < k
          · rw [List.getElem?_append_left (by omega)] at hcs
            exact h4 i cs hcs
          · have hik : i = k := by
              have := (List.getElem?_eq_some_iff.1 hcs).1
              simp [h1] at this; omega
            subst hik
            rw [List.getElem?_append_right (by omega), h1] at hcs
            simp at hcs; subst hcs
            exact ⟨g3, g2⟩
    obtain ⟨Cs, h1, h2, h3, h4⟩ := key len (Nat.le_refl _)
    refine ⟨n, Cs, (List.range len).map D, h1, by simp, h2, fun i cs hcs => ?_, .inr ⟨_, rfl⟩, hl, hcap⟩
    have hi : i < len := by rw [← h1]; exact (List.getElem?_eq_some_iff.1 hcs).1
    obtain ⟨g1, g2⟩ := h4 i cs hcs
    exact ⟨g1, D i, Pl i, by simp [hi], g2⟩
end Go.Vc
