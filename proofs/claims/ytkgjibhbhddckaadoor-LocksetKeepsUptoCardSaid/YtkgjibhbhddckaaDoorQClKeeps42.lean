/- lockset: LocksetKeeps' walk. -/
import Derived.Test.YtkgjibhbhddckaaDoorQClKeeps41
namespace Go.Vc
open Go Go.Proofs
set_option maxRecDepth 10000
variable {w : World}
theorem varAt_of {g : KG} {V : List LV} (hV : g.vars.map varM = V) {n : Nat} {v : LV} (hv : V[n]? = some v) : ∃ y, varAt g (n : Int) = some y ∧ varM y = v := by
  rw [← hV, List.getElem?_map] at hv
  obtain ⟨y, q1, q2⟩ := Option.map_eq_some_iff.1 hv
  exact ⟨y, by unfold varAt; rw [if_pos (by omega), Int.toNat_natCast]; exact q1, q2⟩
theorem encI_map (l : List Nat) : (l.map encI) = (l.map fun n : Nat => (n : Int)).map I := by rw [List.map_map]; rfl
set_option maxHeartbeats 25600000 in
theorem locksetKeeps_ret (hT : TabW w) {s : Shp} {l : List Ev} {pad ead : Option Addr} {cap ecap : Nat} (hr : ReadS w pad (s.pa.map I)) (hpl : s.pa.length ≤ 1048576) (he : ReadS w ead (evsC l)) (hl : l.length ≤ 1048576) :
    Ret Tryd.prog 6 [.agg ⟨shC s pad cap⟩, .slice ead l.length ecap] w (fun v w' => v = .bool true ∧ Kp [] w w') := by
  have hel := evsC_len l
  refine enter Tryd.call6 Tryd.func6 rfl rfl rfl rfl ?_
  (repeat first|refine zA ?_|refine zg ?_)
  refine o_box rfl rfl rfl ?_
  intro bx w1 hbx hu1
  have hB1 : Blk w1 bx (shC s pad cap) 29 := hu1.blk
  have k1 : Kp [] w w1 := hu1.kp [] (.inr (by omega))
  (repeat first|refine zA ?_|refine zB ?_|refine zg ?_|refine zo rfl rfl trivial ?_|refine zn ?_)
  refine o_call (lives23_ret (hT.kp k1 (by simp))) rfl rfl rfl ?_
  rintro v w2 ⟨rfl, k2⟩
  have hB2 := k2.blk (by simp) hB1
  have k02 := k1.trans k2
  clear hu1 hB1 hbx
  (repeat first|refine zA ?_|refine zg ?_|refine zo rfl rfl trivial ?_|refine zn ?_|refine zk ?_|refine zf rfl ?_)
  refine o_loadA (vs := shC s pad cap) rfl (fun j v hv => by rw [Nat.zero_add]; exact hB2.cell hv) rfl rfl rfl rfl rfl rfl ?_
  (repeat refine zo rfl rfl trivial ?_)
  refine o_call (oNew_ret (hr.kp k02 (by simp)) hpl (he.kp k02 (by simp)) hl) rfl rfl rfl ?_
  intro va w3 hA
  have hA' : ∃ (pa : Option Addr) (ea : Int), va = .tuple #[.pointer pa, I ea] ∧ Kp [] w2 w3 ∧ ((badO s l ea ∧ pa = none) ∨ (ea = 0 ∧ shapeB s = true ∧ l.length ≤ 2048 ∧ okTo s l l.length ∧ ∃ g, pa = some ⟨g.p, 0, none⟩ ∧ OrAt w3 g l (rnds s l l.length))) := by
    rcases hA with ⟨e, h1, h2, h3⟩ | ⟨h1, h2, h3, g, h4, h5, h6, h7⟩
    · exact ⟨none, e, h2, h3, .inl ⟨h1, rfl⟩⟩
    · exact ⟨_, 0, h4, h6, .inr ⟨rfl, h1, h2, h3, g, rfl, h5⟩⟩
  obtain ⟨pa, ea, rfl, k3, hcase⟩ := hA'
  clear hA
  have k03 := k02.trans k3
  have hB3 := k3.blk (by simp) hB2
  (repeat first|refine zA ?_|refine zg ?_|refine zo rfl rfl trivial ?_|refine zn ?_)
  refine o_loadA (vs := shC s pad cap) rfl (fun j v hv => by rw [Nat.zero_add]; exact hB3.cell hv) rfl rfl rfl rfl rfl rfl ?_
  refine o_call (kNew_ret (hT.kp k03 (by simp)) (hr.kp k03 (by simp)) hpl) rfl rfl rfl ?_
  rintro v w4 (⟨hs, rfl, k4⟩ | ⟨hs, kp, ck, mh, vb, rfl, hk4, k4, hn4⟩)
  · have hea : ea = 5 := by
      rcases hcase with ⟨h1, _⟩ | ⟨_, h1, _⟩
      · rcases h1 with ⟨rfl, _⟩ | ⟨_, h, _⟩ | ⟨_, h, _⟩
        · rfl
        · rw [hs] at h; cases h
        · rw [hs] at h; cases h
      · rw [hs] at h1; cases h1
    subst hea
    (repeat first|refine zA ?_|refine zB ?_|refine zg ?_|refine zo rfl rfl trivial ?_|refine zn ?_|refine zr ?_|refine zT rfl rfl rfl ?_|refine zt rfl ?_)
    exact ⟨_, rfl, rfl, k03.trans k4⟩
  rcases hcase with ⟨hbad, rfl⟩ | ⟨rfl, _, hl2, hok, og, rfl, hO3⟩
  · have hea : ea = 3 ∨ ea = 6 := by
      rcases hbad with ⟨rfl, h⟩ | ⟨rfl, _⟩ | ⟨rfl, _⟩
      · rw [hs] at h; cases h
      · omega
      · omega
    (repeat first|refine zA ?_|refine zB ?_|refine zg ?_|refine zo rfl rfl trivial ?_|refine zn ?_|refine zk ?_|refine zf rfl ?_)
    refine r_yes rfl (by simp; omega) ?_
    (repeat first|refine zA ?_|refine zg ?_|refine zo rfl rfl trivial ?_|refine zn ?_|refine zr ?_)
    exact ⟨_, rfl, by simp; omega, k03.trans k4⟩
  have hsh := (shapeB_iff s).1 hs
  have hva : 0 ≤ s.va ∧ s.va ≤ 4096 := hsh.2.1
  have hX : ∀ W, Kp [] w3 W → OX W (some ⟨og.p, 0, none⟩) og.F l (rnds s l l.length) := fun W k => .inr ⟨og, rfl, rfl, hO3.kp0 k⟩
  have h4 : KS w4 (newKG kp ck mh vb s.va.toNat) s (newLS s) := ⟨hk4, fun t => rfl, by simp [newKG, newLS, varM]⟩
  have hgk : (newKG kp ck mh vb s.va.toNat).kp = kp := rfl
  generalize newKG kp ck mh vb s.va.toNat = g0 at h4 hn4 hk4 hgk
  subst hgk
  have hB4 := k4.blk (by simp) hB3
  have he4 := he.kp (k03.trans k4) (by simp)
  have z4 := k4.size
  have hbl := hB3.lt
  (repeat first|refine zA ?_|refine zB ?_|refine zg ?_|refine zo rfl rfl trivial ?_|refine zn ?_|refine zb ?_|refine zk ?_|refine zU rfl rfl rfl ?_|refine zf rfl ?_)
  refine r_loop (α := Nat × Option Addr × Nat) [1, 2, 5, 7, 9, 10] (fun x => [.slice ead l.length ecap, ptr bx, ptr og.p, ptr g0.kp, .slice x.2.1 x.1 x.2.2, I x.1])
    (fun x W => (x.1 : Int) ≤ s.va ∧ OwnS W 22 1 x.2.1 x.1 x.2.2 (List.replicate x.1 (.slice none 0 0)) ∧ Kp [] w4 W ∧ ∀ b, b ∈ blkOf x.2.1 → w4.heap.size ≤ b) (fun x => s.va.toNat - x.1) (0, none, 0) rfl ⟨by dsimp only; omega, ownS_nil _ _ _, Kp.refl _ _, by simp [blkOf]⟩ ?_
  rintro ⟨j, ad, cp⟩ e W ⟨hj, hoL, kW, hnL⟩
  dsimp only at hj hoL hnL ⊢
  have hBW := kW.blk (by simp) hB4
  (repeat first|refine zA ?_|refine zB ?_|refine zg ?_|refine zo rfl rfl trivial ?_)
  refine o_load (v := I s.va) rfl hBW rfl rfl rfl rfl rfl ?_
  (repeat first|refine zo rfl rfl trivial ?_|refine zn ?_)
  refine r_if rfl (fun hc => ?_) (fun hc => ?_)
  · (repeat first|refine zC ?_|refine zg ?_|refine zo rfl rfl trivial ?_|refine zb ?_|refine zk ?_)
    refine o_buildSlice [.slice none 0 0] rfl (by simp [Value.oneCell']) rfl (by decide) (by decide) rfl rfl rfl rfl rfl ?_
    intro b5 w5 hb5 hu5
    have k5 : Kp [] W w5 := hu5.kp [] (.inr (by omega))
    refine o_append1 rfl rfl (hoL.kp k5 (by simp)) hu5.blk rfl rfl rfl rfl (by simp only [maxLen]; omega) (by omega) rfl rfl ?_
    intro ad' cap' w6 ho6 k6 hn6
    have z5 := kW.size
    have z6 := k5.size
    (repeat first|refine zg ?_|refine zo rfl rfl (by first|exact trivial|(simp only[AllP];omega)) ?_|refine zn ?_)
    refine ⟨(j + 1, ad', cap'), rfl, ⟨by dsimp only; omega, by dsimp only; rw [List.replicate_succ']; exact ho6, (kW.trans k5).since k6 hnL, fun b hb => ?_⟩, by dsimp only; omega⟩
    rcases hn6 b hb with q | q
    · exact hnL b q
    · omega
  have hjv : j = s.va.toNat := by omega
  have hL0 : LastS w3 W g0 (blkOf ad) ad cp (List.replicate j (.slice none 0 0)) (newLS s).V := by
    have hlen : (newLS s).V.length = j := by simp [newLS, hjv]
    refine ⟨by rw [hlen]; simp, by rw [hlen]; exact hoL, fun n v x hv hx => ?_, fun b hb => hb, fun b hb => by have := hnL b hb; omega, hoL.lt, fun b hb hin => ?_⟩
    · have e1 : v = ⟨0, 0, none, none, false, 0⟩ := List.eq_of_mem_replicate (List.mem_of_getElem? hv)
      have e2 : x = .slice none 0 0 := List.eq_of_mem_replicate (List.mem_of_getElem? hx)
      subst e1 e2; rfl
    · obtain ⟨ix, hix⟩ := hin
      have := hk4.lt ix b hix
      have := hnL b hb; omega
  have hVl : (newLS s).V.length = s.va.toNat := by simp [newLS]
  (repeat first|refine zA ?_|refine zB ?_|refine zg ?_|refine zo rfl rfl trivial ?_|refine zn ?_|refine zb ?_|refine ze rfl ?_)
  refine r_loop (α := Nat) [1, 2, 5, 7, 9, 11] (fun i => [.slice ead l.length ecap, ptr bx, ptr og.p, ptr g0.kp, .slice ad j cp, I i])
    (fun i W' => i ≤ l.length ∧ Kp [] w3 W' ∧ ∃ g B cs, KS W' g s (runL s l i) ∧ g.kp = g0.kp ∧ (∀ b, g.In b → w3.heap.size ≤ b) ∧ LastS w3 W' g B ad cp cs (runL s l i).V) (fun i => l.length - i) 0 rfl ⟨by omega, k4.trans kW, g0, _, _, h4.kp0 kW, rfl, hn4, hL0⟩ ?_
  clear hL0 h4 hk4 hn4 hoL hc kW hBW
  rintro i e W2 ⟨hi, kW2, g, B, cs, hK, hgk, hgn, hL⟩
  have hB5 := kW2.blk (by simp) hB3
  have hVR := run_V hok hs i hi
  (repeat first|refine zA ?_|refine zB ?_|refine zg ?_|refine zo rfl rfl trivial ?_|refine zn ?_)
  refine r_if rfl (fun hc => ?_) (fun hc => ?_)
  · have hlt : i < l.length := by omega
    have hx : l[i]? = some (evA l i) := by unfold evA; rw [List.getElem?_eq_getElem hlt]; rfl
    have hcan := run_can hok hlt
    have hsucc : runL s l (i + 1) = stepL (runL s l i) (evA l i) s := runN_succ hx
    have hVR2 := run_V hok hs (i + 1) hlt
    generalize evA l i = x at hx hcan hsucc
    obtain ⟨eb, eo, rfl, heb, hcell⟩ := he.at_ (by omega)
    have hce : ∀ m v, (evC x)[m]? = some v → W2.cell? ⟨eb, eo + i * 3 + m, none⟩ = some v := fun m v hv => by
      rw [Nat.add_assoc, ← hcell _ _ (evsC_get hx m v hv)]
      exact World.cell?_of_block ((k03.trans kW2).at_ eb heb (by simp))
    (repeat first|refine zA ?_|refine zC ?_|refine zg ?_|refine zo rfl rfl (by first|exact trivial|(simp only[AllP];omega)) ?_|refine zb ?_|refine zk ?_)
    refine o_loadA (b := eb) (off := eo + i * 3) (vs := evC x) rfl hce rfl rfl rfl rfl rfl rfl ?_
    refine o_alloc rfl rfl rfl rfl ?_
    intro be w5 hbe hu5
    refine o_storeA (cs := evC x) rfl hu5.blk (Nat.le_refl _) rfl (by simp [Value.oneCell']) rfl rfl rfl rfl ?_
    intro w6 hu6
    have k6 : Kp [] W2 w6 := (hu5.kp [] (.inr (by omega))).since (hu6.kp [be] (.inl (by simp))) (by simp; omega)
    have hE6 : Blk w6 be (evC x) 35 := hu6.blk
    have nbe : ¬ g.In be := fun ⟨ix, hb⟩ => by have := hK.at_.lt ix be hb; omega
    clear hu5 hu6
    (repeat first|refine zA ?_|refine zB ?_|refine zg ?_|refine zo rfl rfl trivial ?_|refine zn ?_)
    refine o_loadA (vs := evC x) rfl (fun m v hv => by rw [Nat.zero_add]; exact hE6.cell hv) rfl rfl rfl rfl rfl rfl ?_
    have ek : ptr g0.kp = ptr g.kp := by rw [hgk]
    have hn6 := runN_n (s := s) (S := newLS s) (l := l) i hi
    refine o_call (vs := [ptr g.kp, .agg ⟨evC x⟩]) (Event_S (hK.kp0 k6) (fun v hv => (hVR.ok v hv).ok) (by show (runN s (newLS s) l i).c.n ≤ _; rw [hn6]; show (0 : Nat) + i ≤ _; omega) x) (by rw [← ek]; rfl) rfl rfl ?_
    rintro v w7 (⟨_, rfl, g7, h7, t7⟩ | ⟨hbad, _⟩)
    rotate_left
    · rw [hcan] at hbad; cases hbad
    rw [← hsucc] at h7
    have t27 := (KTo.of0 (g := g) k6).trans t7
    have hE7 := t7.kq.bk nbe hE6
    have hL7 := hL.to t27
    have k7 : Kp [] w3 w7 := t7.kq.kp0 (kW2.trans k6) (fun b hb => hgn b hb)
    have hg7 : ∀ b, g7.In b → w3.heap.size ≤ b := fun b hb => by
      rcases t27.new b hb with q | q
      · exact hgn b q
      · have := kW2.size; omega
    have hgk7 : g7.kp = g0.kp := t27.kp.trans hgk
    have be3 : w3.heap.size ≤ be := by have := kW2.size; omega
    have hB7 := k7.blk (by simp) hB3
    (repeat first|refine zA ?_|refine zB ?_|refine zg ?_|refine zo rfl rfl trivial ?_|refine zn ?_|refine zk ?_|refine zf rfl ?_)
    refine o_load (v := I x.k) rfl hE7 rfl rfl rfl rfl rfl ?_
    (repeat refine zo rfl rfl trivial ?_)
    by_cases hrw : x.k = 1 ∨ x.k = 2
    rotate_left
    · -- no access
      have e1 : (runL s l (i + 1)).V = (runL s l i).V := by rw [hsucc]; show eventV _ _ _ _ = _; unfold eventV; rw [if_neg hrw]
      have n1 : x.k ≠ 1 := fun q => hrw (.inl q)
      have n2 : x.k ≠ 2 := fun q => hrw (.inr q)
      refine o_is true 3 true rfl rfl rfl (by simp [n1]) ?_
      (repeat refine zo rfl rfl trivial ?_)
      refine o_load (v := I x.k) rfl hE7 rfl rfl rfl rfl rfl ?_
      (repeat first|refine zo rfl rfl trivial ?_|refine zn ?_)
      refine r_yes rfl (by simp [n2]) ?_
      (repeat first|refine zg ?_|refine zo rfl rfl (by first|exact trivial|(simp only[AllP];omega)) ?_|refine zn ?_|refine ze rfl ?_)
      exact ⟨i + 1, rfl, ⟨by omega, k7, g7, B, cs, h7, hgk7, hg7, by rw [e1]; exact hL7⟩, by omega⟩
    obtain ⟨o1, o2⟩ := can_acc hcan hrw
    have hVlen : (runL s l i).V.length = s.va.toNat := hVR.len
    have hvlt : x.o.toNat < (runL s l i).V.length := by omega
    obtain ⟨v, hv⟩ : ∃ v, (runL s l i).V[x.o.toNat]? = some v := ⟨_, List.getElem?_eq_getElem hvlt⟩
    obtain ⟨H, hH⟩ : ∃ H, (runL s l i).H x.t = H := ⟨_, rfl⟩
    have hV' : (runL s l (i + 1)).V = (runL s l i).V.set x.o.toNat (accL v x H (runL s l i).c.n) := by
      rw [hsucc]
      show eventV _ _ _ _ = _
      unfold eventV
      rw [if_pos hrw, hv, hH]
    have hH' : (runL s l (i + 1)).H x.t = H := by
      rw [hsucc]
      show eventH _ _ _ = _
      unfold eventH
      rw [if_neg (by omega), if_neg (by omega)]; exact hH
    have hvi := hVR.ok v (List.mem_of_getElem? hv)
    have hvi' := hvi.acc x H (runL s l i).c.n
    have hkp' := accL_kp v x H (runL s l i).c.n
    have hv' : (runL s l (i + 1)).V[x.o.toNat]? = some (accL v x H (runL s l i).c.n) := by rw [hV']; simp [hvlt]
    generalize hav : accL v x H (runL s l i).c.n = v' at hvi' hkp' hv' hV'
    obtain ⟨y, hy, hym⟩ := varAt_of h7.V hv'
    have hon : ((x.o.toNat : Nat) : Int) = x.o := by omega
    rw [hon] at hy
    obtain ⟨p1, p2⟩ := kp_l hym
    rw [hkp'] at p1
    obtain ⟨K, hKd⟩ : ∃ K, inter (v.kp.getD H) H = K := ⟨_, rfl⟩
    rw [hKd] at p1 hkp'
    obtain ⟨q1, q2⟩ := oL_of p1
    have hph : y.ph = v'.ph := by rw [← hym]; rfl
    have e3 : (varAt g7 x.o).bind (fun z => z.kp) = y.kp := by rw [hy]; rfl
    have e4 : (varAt g7 x.o).bind (fun z => z.ca) = y.ca := by rw [hy]; rfl
    have hKH : ∀ m ∈ K, m ∈ H := fun m hm => by rw [← hKd, mem_inter] at hm; exact hm.2
    have hyv : g7.vars[x.o.toNat]? = some y := by
      unfold varAt at hy
      rw [if_pos o1] at hy; exact hy
    have hK31 : K.length ≤ 1048576 := by rw [← q1]; exact (h7.at_.keep _ y hyv).small
    have hC31 : (oL y.ca).length ≤ 1048576 := (h7.at_.cand _ y hyv).small
    have hH31 : H.length ≤ 1048576 := by rw [← hH', ← h7.H]; exact (h7.at_.held x.t).small
    refine o_bool [1, 2, 5, 7, 9, 11, 12] [.slice (some ⟨eb, eo, none⟩) l.length ecap, ptr bx, ptr og.p, ptr g0.kp, .slice ad j cp, I i, ptr be] 83 false (fun w' => w' = w7) ?_ ?_
    · by_cases h1 : x.k = 1
      · refine o_is false 3 true rfl rfl rfl (by simp [h1]) ?_
        (repeat first|refine zo rfl rfl trivial ?_|refine zn ?_)
        exact ⟨rfl, ⟨_, rfl, rfl⟩, rfl⟩
      · refine o_is true 3 true rfl rfl rfl (by simp [h1]) ?_
        (repeat refine zo rfl rfl trivial ?_)
        refine o_load (v := I x.k) rfl hE7 rfl rfl rfl rfl rfl ?_
        (repeat first|refine zo rfl rfl trivial ?_|refine zn ?_)
        exact ⟨rfl, ⟨_, rfl, by simp; omega⟩, rfl⟩
    rintro e w7' rfl
    have ek7 : ptr g0.kp = ptr g7.kp := by rw [hgk7]
    (repeat first|refine zA ?_|refine zg ?_|refine zo rfl rfl trivial ?_|refine zk ?_|refine zf rfl ?_)
    refine o_load (v := I x.o) rfl hE7 rfl rfl rfl rfl rfl ?_
    refine o_call (vs := [ptr g7.kp, I x.o]) (kKeeps_ret h7.at_ x.o) (by rw [← ek7]; rfl) rfl rfl ?_
    rw [e3, q1, q2]
    rintro q w8 ⟨ad8, cap8, rfl, hN8⟩
    have k8 := hN8.kp
    have hE8 := k8.blk (by simp) hE7
    (repeat first|refine zA ?_|refine zg ?_|refine zo rfl rfl trivial ?_|refine zn ?_)
    refine o_load (v := I x.o) rfl hE8 rfl rfl rfl rfl rfl ?_
    refine o_call (vs := [ptr g7.kp, I x.o]) (kView_ret (h7.kp0 k8).at_ x.o) (by rw [← ek7]; rfl) rfl rfl ?_
    rw [e4, hy]
    rintro q w9 ⟨ad9, cap9, rfl, hN9⟩
    simp only [Option.map_some, Option.getD_some, Option.isSome_some]
    have k9 := hN9.kp
    (repeat refine zo rfl rfl trivial ?_)
    refine o_alloc rfl rfl rfl rfl ?_
    intro bv w10 hbv hu10
    refine o_storeA (cs := [I y.ph, I y.th, .slice ad9 (oL y.ca).length cap9]) rfl hu10.blk (Nat.le_refl _) rfl (by simp [Value.oneCell']) rfl rfl rfl rfl ?_
    intro w11 hu11
    have k11 : Kp [] w9 w11 := (hu10.kp [] (.inr (by omega))).since (hu11.kp [bv] (.inl (by simp))) (by simp; omega)
    have hBv : Blk w11 bv [I y.ph, I y.th, .slice ad9 (oL y.ca).length cap9] 41 := hu11.blk
    have k711 := k8.trans (k9.trans k11)
    have hE11 := (k9.trans k11).blk (by simp) hE8
    have hN8' := hN8.own.kp (k9.trans k11) (by simp)
    have hN9' := hN9.own.kp k11 (by simp)
    have h11 := h7.kp0 k711
    have hL11 := hL7.kp0 k711
    clear hu10 hu11
    have hcsl : cs.length = s.va.toNat := by rw [hL11.len, hVlen]
    obtain ⟨x0, hx0⟩ : ∃ x0, cs[x.o.toNat]? = some x0 := ⟨_, List.getElem?_eq_getElem (by omega)⟩
    have hC0 := hL11.c _ v x0 hv hx0
    have hown := hL11.own
    rw [hVlen, ← hjv] at hown
    have hlen8 : (K.map fun n : Nat => (n : Int)).length = K.length := by simp
    (repeat first|refine zA ?_|refine zB ?_|refine zg ?_|refine zo rfl rfl trivial ?_|refine zn ?_|refine zU rfl rfl rfl ?_)
    refine o_load (v := I y.ph) rfl hBv rfl rfl rfl rfl rfl ?_
    (repeat refine zo rfl rfl trivial ?_)
    refine o_is false 11 false rfl rfl rfl (by rw [hph]; simp; exact hvi'.ph (by rw [hkp']; rfl)) ?_
    (repeat refine zo rfl rfl trivial ?_)
    refine o_load (v := I x.t) rfl hE11 rfl rfl rfl rfl rfl ?_
    refine o_call (vs := [ptr g7.kp, I x.t]) (kHeld_ret h11.at_ x.t) (by rw [← ek7]; rfl) rfl rfl ?_
    rw [h11.H, hH']
    rintro q w12 ⟨ad12, cap12, rfl, hN12⟩
    refine o_call (within23_yes (l1 := K.map fun n : Nat => (n : Int)) (l2 := H.map fun n : Nat => (n : Int)) (by rw [← encI_map]; exact hN8'.read.kp hN12.kp (by simp)) (by rw [← encI_map]; exact hN12.own.read) (by simp) (by simp) (fun z hz => by
      obtain ⟨m, hm, rfl⟩ := List.mem_map.1 hz
      exact List.mem_map.2 ⟨m, hKH m hm, rfl⟩) (by omega) (by omega)) rfl rfl rfl ?_
    rintro q w13 ⟨rfl, s13⟩
    have k1113 := hN12.kp.trans (s13.kp [])
    have hown13 := hown.kp k1113 (by simp)
    have hE13 := k1113.blk (by simp) hE11
    (repeat first|refine zo rfl rfl trivial ?_|refine zU rfl rfl rfl ?_)
    refine o_load (v := I x.o) rfl hE13 rfl rfl rfl rfl rfl ?_
    obtain ⟨lb, lo, rfl, _, hlc⟩ := hown13.read.at_ (by rw [hcsl]; omega)
    (repeat refine zo rfl rfl (by first|exact trivial|(simp only[AllP];omega)) ?_)
    refine o_bool [1, 2, 5, 7, 9, 11, 12, 13, 15] [.slice (some ⟨eb, eo, none⟩) l.length ecap, ptr bx, ptr og.p, ptr g0.kp, .slice (some ⟨lb, lo, none⟩) j cp, I i, ptr be, .slice ad8 K.length cap8, ptr bv] 135 false (fun w' => Kp [] w13 w') ?_ ?_
    · refine o_loadc (b := lb) (off := lo + x.o.toNat) (v := x0) rfl (hlc _ _ hx0) rfl rfl rfl rfl ?_
      cases hvk : v.kp with
      | none =>
        rw [hvk] at hC0
        have e0 : x0 = .slice none 0 0 := hC0
        subst e0
        (repeat first|refine zo rfl rfl trivial ?_|refine zn ?_|refine zU rfl rfl rfl ?_)
        exact ⟨rfl, ⟨_, rfl, rfl⟩, Kp.refl _ _⟩
      | some K0 =>
        rw [hvk] at hC0
        obtain ⟨b0, cap0, rfl, hb0, _, hR0⟩ := hC0
        (repeat first|refine zo rfl rfl trivial ?_|refine zT rfl rfl rfl ?_)
        refine o_load (v := I x.o) rfl hE13 rfl rfl rfl rfl rfl ?_
        (repeat refine zo rfl rfl (by first|exact trivial|(simp only[AllP];omega)) ?_)
        refine o_loadc (b := lb) (off := lo + x.o.toNat) (v := .slice (some ⟨b0, 0, none⟩) (K0.length + 1) cap0) rfl (hlc _ _ hx0) rfl rfl rfl rfl ?_
        have hK0 : ∀ m ∈ K, m ∈ K0 := fun m hm => by rw [← hKd, mem_inter, hvk] at hm; exact hm.1
        have hK0l : K0.length ≤ 1048576 := by
          obtain ⟨y0, hy0, hym0⟩ := varAt_of hK.V hv
          have hy0v : g.vars[x.o.toNat]? = some y0 := by
            unfold varAt at hy0
            rw [if_pos (by omega), Int.toNat_natCast] at hy0; exact hy0
          have := (hK.at_.keep _ y0 hy0v).small
          have p3 := (kp_l hym0).1
          rw [hvk] at p3
          rw [(oL_of p3).1] at this; exact this
        refine o_call (within23_yes (l1 := K.map fun n : Nat => (n : Int)) (l2 := (-1) :: K0.map fun n : Nat => (n : Int)) (by rw [← encI_map]; exact hN8'.read.kp k1113 (by simp)) (by rw [List.map_cons, ← encI_map]; exact hR0.kp k1113 (by simp)) (by simp) (by simp) (fun z hz => by
          obtain ⟨m, hm, rfl⟩ := List.mem_map.1 hz
          exact List.mem_cons_of_mem _ (List.mem_map.2 ⟨m, hK0 m hm, rfl⟩)) (by omega) (by omega)) rfl rfl rfl ?_
        rintro q w14 ⟨rfl, s14⟩
        (repeat first|refine zo rfl rfl trivial ?_|refine zn ?_)
        exact ⟨rfl, ⟨_, rfl, rfl⟩, s14.kp []⟩
    intro e w14 k14
    refine r_cond_f rfl ?_
    have k1114 := k1113.trans k14
    have hBv14 := k1114.blk (by simp) hBv
    (repeat first|refine zA ?_|refine zB ?_|refine zg ?_|refine zo rfl rfl trivial ?_|refine zk ?_)
    refine o_load (v := I y.ph) rfl hBv14 rfl rfl rfl rfl rfl ?_
    (repeat refine zo rfl rfl trivial ?_)
    refine o_bool [1, 2, 5, 7, 9, 11, 12, 13] [.slice (some ⟨eb, eo, none⟩) l.length ecap, ptr bx, ptr og.p, ptr g0.kp, .slice (some ⟨lb, lo, none⟩) j cp, I i, ptr be, .slice ad8 K.length cap8] 150 false (fun w' => Kp [] w14 w') ?_ ?_
    · have hin : ∀ W, Kp [] w14 W → (v'.ph = 2 ∨ v'.ph = 3) → Ret Tryd.prog 27 [.slice ad8 K.length cap8, .slice ad9 (oL y.ca).length cap9] W (fun v w' => v = .bool true ∧ Sm W w') := fun W kW' hp => by
        obtain ⟨K2, c, g1, g2, g3⟩ := hvi'.sub hp
        rw [hkp'] at g1
        cases g1
        have e5 : oL y.ca = c := by
          have : y.ca.map SG.l = some c := by rw [p2, g2]
          exact (oL_of this).1
        have kk : Kp [] w11 W := k1114.trans kW'
        rw [e5] at hN9' hC31 ⊢
        exact within23_yes (l1 := K.map fun n : Nat => (n : Int)) (l2 := c.map fun n : Nat => (n : Int)) (by rw [← encI_map]; exact hN8'.read.kp kk (by simp)) (by rw [← encI_map]; exact hN9'.read.kp kk (by simp)) (by simp) (by simp) (fun z hz => by
          obtain ⟨m, hm, rfl⟩ := List.mem_map.1 hz
          exact List.mem_map.2 ⟨m, g3 m hm, rfl⟩) (by omega) (by omega)
      by_cases h2 : y.ph = 2
      · rw [decide_eq_true h2]
        (repeat first|refine zo rfl rfl trivial ?_|refine zT rfl rfl rfl ?_)
        refine o_load (v := .slice ad9 (oL y.ca).length cap9) rfl hBv14 rfl rfl rfl rfl rfl ?_
        refine o_call (hin _ (Kp.refl _ _) (.inl (by rw [← hph]; exact h2))) rfl rfl rfl ?_
        rintro q w15 ⟨rfl, s15⟩
        (repeat first|refine zo rfl rfl trivial ?_|refine zn ?_)
        exact ⟨rfl, ⟨_, rfl, rfl⟩, s15.kp []⟩
      · rw [decide_eq_false h2]
        (repeat first|refine zo rfl rfl trivial ?_|refine zU rfl rfl rfl ?_)
        refine o_load (v := I y.ph) rfl hBv14 rfl rfl rfl rfl rfl ?_
        (repeat refine zo rfl rfl trivial ?_)
        by_cases h3 : y.ph = 3
        · rw [decide_eq_true h3]
          (repeat first|refine zo rfl rfl trivial ?_|refine zT rfl rfl rfl ?_)
          refine o_load (v := .slice ad9 (oL y.ca).length cap9) rfl hBv14 rfl rfl rfl rfl rfl ?_
          refine o_call (hin _ (Kp.refl _ _) (.inr (by rw [← hph]; exact h3))) rfl rfl rfl ?_
          rintro q w15 ⟨rfl, s15⟩
          (repeat first|refine zo rfl rfl trivial ?_|refine zn ?_)
          exact ⟨rfl, ⟨_, rfl, rfl⟩, s15.kp []⟩
        · rw [decide_eq_false h3]
          (repeat first|refine zo rfl rfl trivial ?_|refine zn ?_|refine zU rfl rfl rfl ?_)
          exact ⟨rfl, ⟨_, rfl, rfl⟩, Kp.refl _ _⟩
    intro e w15 k15
    refine r_cond_f rfl ?_
    (repeat refine zk ?_)
    have k1115 := k1114.trans k15
    have hE15 := k1115.blk (by simp) hE11
    have hN15 := hN8'.kp k1115 (by simp)
    have hown15 := hown.kp k1115 (by simp)
    have hL15 := hL11.kp0 k1115
    have h15 := h11.kp0 k1115
    have k715 := k711.trans k1115
    obtain ⟨lb2, L2, hlb2, hBL2, hoL2, hwr2⟩ := hown15.wr (i := x.o.toNat) (by omega)
    cases hlb2
    refine r_cut (α := Nat × Nat) [1, 2, 5, 7, 9, 11] (fun _ => [.slice (some ⟨eb, eo, none⟩) l.length ecap, ptr bx, ptr og.p, ptr g0.kp, .slice (some ⟨lb, 0, none⟩) j cp, I i])
      (fun z w' => ReadS w' (some ⟨z.1, 0, none⟩) (I (-1) :: K.map encI) ∧ w15.heap.size ≤ z.1 ∧ z.1 < w'.heap.size ∧ Kp [lb] w15 w' ∧ OwnS w' 22 1 (some ⟨lb, 0, none⟩) j cp (cs.set x.o.toNat (.slice (some ⟨z.1, 0, none⟩) (K.length + 1) z.2))) ?_ ?_
    · have kd := (Sm.drew w15).kp []
      refine r_mix (fun w' => Kp [] w15 w') [(0, false), (1, false), (2, false), (4, false), (3, true), (5, true), (6, false), (7, true)] follows_mixed (by kernel_rfl) (by kernel_rfl) (by kernel_rfl) kd ?_
      generalize ({ w15 with drawn := w15.drawn + 1 } : World) = wd at kd ⊢
      (repeat refine xo rfl rfl trivial ?_)
      refine x_load (v := I x.o) rfl rfl (fun w' h' => (h'.blk (by simp) hE15).cell rfl) rfl rfl rfl rfl ?_
      (repeat refine xo rfl rfl trivial ?_)
      refine x_act rfl ?_
      refine o_buildSlice [I (-1)] rfl (by simp [Value.oneCell']) rfl (by decide) (by decide) rfl rfl rfl rfl rfl ?_
      intro b16 w16 hb16 hu16
      have k16 : Kp [] wd w16 := hu16.kp [] (.inr (by omega))
      have kd16 := kd.trans k16
      have z16 := hu16.lt
      have z15 := kd.size
      refine o_nil ⟨.inr kd16, ?_⟩
      refine x_act rfl ?_
      refine o_appendR (K.map encI) rfl rfl (show OwnS w16 3 1 (some ⟨b16, 0, none⟩) 1 1 [I (-1)] from ⟨rfl, rfl, rfl, Nat.le_refl _, by simp only [maxLen]; omega, [], hu16.blk, rfl⟩) (hN15.read.kp kd16 (by simp)) rfl rfl rfl (by omega) (by simp) (by intro u hu; obtain ⟨m, _, rfl⟩ := List.mem_map.1 hu; rfl) (by simp only [maxLen]; omega) (by omega) rfl rfl ?_
      intro ad17 cap17 w17 ho17 k17 hn17
      have kd17 : Kp [] w15 w17 := kd16.since k17 (by simp [blkOf]; omega)
      refine o_nil ⟨.inr kd17, ?_⟩
      (repeat refine xo rfl rfl (by first|exact trivial|(simp only[AllP];omega)) ?_)
      refine x_act rfl ?_
      obtain ⟨b17, L17, rfl, hB17, _, _⟩ := ho17.wr (i := 0) (by omega)
      have hn17' : w15.heap.size ≤ b17 := by
        rcases hn17 b17 (by simp [blkOf]) with q | q
        · simp [blkOf] at q; omega
        · have := k16.size; omega
      have hlb := hBL2.lt
      obtain ⟨lb3, L3, hlb3, hBL3, hoL3, hwr3⟩ := (hown15.kp kd17 (by simp)).wr (i := x.o.toNat) (by omega)
      cases hlb3
      refine o_store (b := lb) (off := x.o.toNat) (v := .slice (some ⟨b17, 0, none⟩) (1 + K.length) cap17) (by show Value.pointer (some ⟨lb, 0 + x.o.toNat, none⟩) = _; rw [Nat.zero_add]) hBL3 hoL3 rfl rfl rfl rfl rfl rfl ?_
      intro w18 hu18
      have k18 : Kp [lb] w17 w18 := hu18.kp _ (.inl (by simp))
      have hfin := hwr3 (.slice (some ⟨b17, 0, none⟩) (1 + K.length) cap17) w18 hu18
      refine o_nil ⟨.inl (by kernel_rfl), ?_⟩
      (repeat refine xn ?_)
      refine ⟨(b17, cap17), rfl, ?_, hn17', ?_, (kd17.mono (by simp)).trans k18, ?_⟩
      · have hr17 := ho17.read.kp k18 (fun b hb hb2 => by simp [blkOf] at hb hb2; omega)
        exact hr17
      · have := hB17.lt; have := k18.size; dsimp only; omega
      · dsimp only
        rw [Nat.add_comm K.length 1]; exact hfin
    rintro ⟨b17, cap17⟩ e w18 ⟨hR18, hb17, hb17', k18, hO18⟩
    dsimp only at hR18 hb17 hb17' hO18
    have z7 := k715.size
    have z3 := k7.size
    have hlbB : lb ∈ B := hL15.inB lb (by simp [blkOf])
    have hlblo := hL15.lo lb hlbB
    have hlbhi := hL15.hi lb hlbB
    have zT := hT.lt
    have z03 := k03.size
    have h18 : KS w18 g7 s (runL s l (i + 1)) := ⟨h15.at_.kp k18 (fun ix b hb hb2 => by simp at hb2; subst hb2; exact hL15.out _ hlbB ⟨ix, hb⟩) (by simp; omega), h15.H, h15.V⟩
    have kq18 : Kq (fun b => b = lb) w15 w18 := k18.kq (fun b hb => by simpa using hb)
    (repeat first|refine zg ?_|refine zo rfl rfl (by first|exact trivial|(simp only[AllP];omega)) ?_|refine zn ?_)
    refine ⟨i + 1, rfl, ⟨by omega, (k7.trans k715).since k18 (by simp; exact hlblo), g7, b17 :: B, cs.set x.o.toNat (.slice (some ⟨b17, 0, none⟩) (K.length + 1) cap17), h18, hgk7, hg7, ?_⟩, by omega⟩
    rw [hV']
    refine ⟨by rw [List.length_set, List.length_set]; exact hL15.len, by rw [List.length_set, hVlen, ← hjv]; exact hO18, fun n u z hu hz => ?_, fun b hb => List.mem_cons_of_mem _ (hL15.inB b hb), fun b hb => ?_, fun b hb => ?_, fun b hb hin => ?_⟩
    · rw [List.getElem?_set] at hu hz
      by_cases q : x.o.toNat = n
      · rw [if_pos q, if_pos hvlt] at hu
        rw [if_pos q, if_pos (by omega)] at hz
        have hu := Option.some.inj hu
        have hz := Option.some.inj hz
        subst hu hz
        rw [hkp']
        exact ⟨b17, cap17, rfl, by simp, by simp [blkOf]; omega, hR18⟩
      · rw [if_neg q] at hu hz
        have := hL15.c n u z hu hz
        cases hk : u.kp with
        | none => rw [hk] at this; exact this
        | some K2 =>
          rw [hk] at this
          obtain ⟨b2, c2, r1, r2, r3, r4⟩ := this
          exact ⟨b2, c2, r1, List.mem_cons_of_mem _ r2, r3, r4.kq kq18 (fun b hb hb2 => by
            have e : b = b2 := by simpa [blkOf] using hb
            have hb2' : b = lb := hb2
            exact r3 (by rw [← e, hb2']; simp [blkOf]))⟩
    · rcases List.mem_cons.1 hb with rfl | hb
      · omega
      · exact hL15.lo b hb
    · rcases List.mem_cons.1 hb with rfl | hb
      · exact hb17'
      · have := hL15.hi b hb; have := k18.size; omega
    · rcases List.mem_cons.1 hb with rfl | hb
      · obtain ⟨ix, hix⟩ := hin
        have := h15.at_.lt ix _ hix; omega
      · exact hL15.out b hb hin
  -- all events are in
  have hil : i = l.length := by omega
  subst hil
  have hB2W := kW2.blk (by simp) hB3
  have ekF : ptr g0.kp = ptr g.kp := by rw [hgk]
  (repeat first|refine zA ?_|refine zg ?_|refine zo rfl rfl trivial ?_|refine ze rfl ?_)
  refine o_call (vs := [ptr g.kp]) (kWarned_ret hK.at_) (by rw [← ekF]; rfl) rfl rfl ?_
  rw [hK.V]
  rintro q w5 ⟨adw, capw, rfl, hoW, k5, _⟩
  have kk5 := kW2.trans k5
  have hrW := hoW.readN
  have hwl : (warnedL (runL s l l.length).V).length ≤ 4096 := by
    have h1 : (warnedL (runL s l l.length).V).length ≤ (runL s l l.length).V.length := by
      unfold warnedL
      exact Nat.le_trans (List.length_filterMap_le _ _) (by simp)
    have := hVR.len; omega
  have hwm : ∀ z ∈ warnedL (runL s l l.length).V, ∃ v, (runL s l l.length).V[z.1]? = some v ∧ v.kp = some [] := fun z hz => by
    obtain ⟨v, hv, hw⟩ := warned_mem hz
    exact ⟨v, hv, (hVR.ok v (List.mem_of_getElem? hv)).wa hw⟩
  generalize warnedL (runL s l l.length).V = wl at hrW hwl hwm hoW
  (repeat first|refine zA ?_|refine zB ?_|refine zg ?_|refine zo rfl rfl trivial ?_|refine zn ?_|refine zb ?_)
  refine r_loop (α := Nat) [2, 5, 7, 17, 18] (fun v => [ptr bx, ptr og.p, ptr g0.kp, .slice adw wl.length capw, I v]) (fun v W => (v : Int) ≤ s.va ∧ Kp [] w5 W) (fun v => s.va.toNat - v) 0 rfl ⟨by omega, Kp.refl _ _⟩ ?_
  rintro n e W3 ⟨hn, kn⟩
  have hB3n := (k5.trans kn).blk (by simp) hB2W
  have hKn := hK.kp0 (k5.trans kn)
  (repeat first|refine zA ?_|refine zB ?_|refine zg ?_|refine zo rfl rfl trivial ?_)
  refine o_load (v := I s.va) rfl hB3n rfl rfl rfl rfl rfl ?_
  (repeat first|refine zo rfl rfl trivial ?_|refine zn ?_)
  refine r_if rfl (fun hc2 => ?_) (fun hc2 => ?_)
  · have hvlt : n < (runL s l l.length).V.length := by have := hVR.len; omega
    obtain ⟨v, hv⟩ : ∃ v, (runL s l l.length).V[n]? = some v := ⟨_, List.getElem?_eq_getElem hvlt⟩
    obtain ⟨y, hy, hym⟩ := varAt_of hKn.V hv
    obtain ⟨p1, p2⟩ := kp_l hym
    have e3 : (varAt g (n : Int)).bind (fun z => z.kp) = y.kp := by rw [hy]; rfl
    (repeat first|refine zA ?_|refine zC ?_|refine zg ?_|refine zo rfl rfl trivial ?_|refine zb ?_|refine zk ?_)
    refine o_call (vs := [ptr g.kp, I n]) (kKeeps_ret hKn.at_ n) (by rw [← ekF]; rfl) rfl rfl ?_
    rw [e3]
    rintro q w6 ⟨ad6, cap6, rfl, hN6⟩
    have k6 := hN6.kp
    have kk6 := (kk5.trans kn).trans k6
    (repeat first|refine zA ?_|refine zB ?_|refine zg ?_|refine zo rfl rfl trivial ?_|refine zn ?_)
    refine o_bool [2, 5, 7, 17, 18, 19, 20] [ptr bx, ptr og.p, ptr g0.kp, .slice adw wl.length capw, I n, .slice ad6 (oL y.kp).length cap6, .bool y.kp.isSome] 184 false (fun w' => Kp [] w6 w') ?_ ?_
    · cases hyk : y.kp with
      | none =>
        (repeat first|refine zo rfl rfl trivial ?_|refine zn ?_|refine zU rfl rfl rfl ?_)
        exact ⟨rfl, ⟨_, rfl, rfl⟩, Kp.refl _ _⟩
      | some sg =>
        rw [hyk] at p1
        (repeat first|refine zo rfl rfl trivial ?_|refine zT rfl rfl rfl ?_)
        by_cases h0 : 0 < (oL (some sg)).length
        · refine o_is true 6 true rfl rfl rfl (by simpa using h0) ?_
          (repeat refine zo rfl rfl trivial ?_)
          refine o_call (xRaces_ret (hX _ kk6) n) rfl rfl rfl ?_
          have hmem : ∃ m, m ∈ sg.l := by
            have : 0 < sg.l.length := h0
            exact ⟨_, List.getElem_mem this⟩
          obtain ⟨m, hm⟩ := hmem
          rw [kept_no_race (R := rnds s l l.length) hok hs hv p1.symm hm]
          rintro q w7 ⟨ad7, cap7, rfl, _, k7, _⟩
          (repeat first|refine zo rfl rfl trivial ?_|refine zn ?_)
          exact ⟨rfl, ⟨_, rfl, rfl⟩, k7⟩
        · refine o_is false 6 true rfl rfl rfl (by simpa using h0) ?_
          (repeat first|refine zo rfl rfl trivial ?_|refine zn ?_)
          exact ⟨rfl, ⟨_, rfl, rfl⟩, Kp.refl _ _⟩
    intro e w7 k7
    refine r_cond_f rfl ?_
    have kn7 := (kn.trans k6).trans k7
    (repeat first|refine zA ?_|refine zg ?_|refine zo rfl rfl trivial ?_|refine zn ?_|refine zb ?_|refine zk ?_)
    refine r_loop (α := Nat) [2, 5, 7, 17, 18, 19, 20, 21] (fun i => [ptr bx, ptr og.p, ptr g0.kp, .slice adw wl.length capw, I n, .slice ad6 (oL y.kp).length cap6, .bool y.kp.isSome, I i]) (fun i W => i ≤ wl.length ∧ Kp [] w5 W) (fun i => wl.length - i) 0 rfl ⟨by omega, kn7⟩ ?_
    rintro i2 e W4 ⟨hi2, k4'⟩
    (repeat first|refine zA ?_|refine zB ?_|refine zg ?_|refine zo rfl rfl trivial ?_|refine zn ?_)
    refine r_if rfl (fun hc3 => ?_) (fun hc3 => ?_)
    · obtain ⟨z, hz⟩ : ∃ z, wl[i2]? = some z := ⟨_, List.getElem?_eq_getElem (by omega)⟩
      obtain ⟨b3, o3, rfl, _, hcl⟩ := (hrW.kp k4' (by simp)).at_ (by rw [flagsC_len]; omega)
      (repeat first|refine zA ?_|refine zC ?_|refine zg ?_|refine zo rfl rfl (by first|exact trivial|(simp only[AllP];omega)) ?_|refine zb ?_|refine zk ?_)
      refine o_loadc (b := b3) (off := o3 + i2 * 2 + 0) (v := I (z.1 : Int)) rfl (by rw [Nat.add_assoc]; exact hcl _ _ (flC_get (f := flagC) (m := 2) (fun _ => rfl) hz (j := 0) rfl)) rfl rfl rfl rfl ?_
      (repeat refine zo rfl rfl trivial ?_)
      refine o_bool [2, 5, 7, 17, 18, 19, 20, 21] [ptr bx, ptr og.p, ptr g0.kp, .slice (some ⟨b3, o3, none⟩) wl.length capw, I n, .slice ad6 (oL y.kp).length cap6, .bool y.kp.isSome, I i2] 206 false (fun w' => w' = W4) ?_ ?_
      · by_cases hzn : z.1 = n
        · obtain ⟨v2, hv2, hk2⟩ := hwm z (List.mem_of_getElem? hz)
          rw [hzn, hv] at hv2
          cases hv2
          rw [hk2] at p1
          obtain ⟨g1, g2⟩ := oL_of p1
          rw [g1, g2]
          refine o_is true 7 true rfl rfl rfl (by simp; omega) ?_
          (repeat first|refine zo rfl rfl trivial ?_|refine zn ?_|refine zU rfl rfl rfl ?_)
          exact ⟨rfl, ⟨_, rfl, rfl⟩, rfl⟩
        · refine o_is false 7 true rfl rfl rfl (by simp; omega) ?_
          (repeat first|refine zo rfl rfl trivial ?_|refine zn ?_|refine zV rfl rfl rfl ?_)
          exact ⟨rfl, ⟨_, rfl, rfl⟩, rfl⟩
      rintro e W5 rfl
      refine r_cond_f rfl ?_
      (repeat first|refine zg ?_|refine zo rfl rfl (by first|exact trivial|(simp only[AllP];omega)) ?_|refine zn ?_|refine zk ?_)
      exact ⟨i2 + 1, rfl, ⟨by omega, k4'⟩, by omega⟩
    · (repeat first|refine zg ?_|refine zo rfl rfl (by first|exact trivial|(simp only[AllP];omega)) ?_|refine zn ?_|refine ze rfl ?_)
      exact ⟨n + 1, rfl, ⟨by omega, k4'⟩, by omega⟩
  · (repeat first|refine zA ?_|refine zg ?_|refine zo rfl rfl trivial ?_|refine zn ?_|refine ze rfl ?_|refine zr ?_)
    exact ⟨_, rfl, rfl, (k03.trans kk5).trans kn⟩
end Go.Vc
