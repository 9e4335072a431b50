/- abreastref20: Aside, Race, All, Races, best, First, Pair; an order or none. -/
import Derived.Test.YtkgngbpkiklckaaGreatDoorQClQRaces47
namespace Go.Vc
open Go Go.Proofs
set_option maxRecDepth 10000
variable {w : World}
section
variable {g : RrG} {E : List Ev} {R : List Int}
/-- a cell of the closure -/
theorem RrAt.bat (h : RrAt w g E R) {i j : Int} (hi : 0 ≤ i ∧ i < E.length) (hj : 0 ≤ j ∧ j < E.length) : ∃ bb rb, g.bv = .slice (some ⟨bb, 0, none⟩) E.length E.length ∧ Blk w bb (rowsV E.length 0 rb) 211 ∧ (rowsV E.length 0 rb)[i.toNat]? = some (.slice (some ⟨rb i.toNat, 0, none⟩) E.length E.length) ∧ Blk w (rb i.toNat) (bl (fun k => befI E R i.toNat k) E.length) 4 ∧ (bl (fun k => befI E R i.toNat k) E.length)[j.toNat]? = some (.bool (befI E R i j)) := by
  obtain ⟨bb, rb, hbv, hR⟩ := h.rows
  have ei : ((i.toNat : Nat) : Int) = i := by omega
  have ej : ((j.toNat : Nat) : Int) = j := by omega
  exact ⟨bb, rb, hbv, hR.top, rowsV_get rb (by omega) (by omega), (hR.row i.toNat (by omega) (by omega)).1, by rw [bl_get _ (by omega), ei, ej]⟩
theorem raccess20_ret (x : Ev) : Ret Tryz.prog 103 [.agg ⟨evC x⟩] w (fun v w' => v = .bool (accB x) ∧ Kp [] w w') := by
  refine enter Tryz.call103 Tryz.func103 rfl rfl rfl rfl ?_
  (repeat first|refine zA ?_|refine zg ?_)
  refine o_box rfl rfl rfl ?_
  intro bx w1 hbx hu1
  have hB1 : Blk w1 bx (evC x) 86 := hu1.blk
  have k1 : Kp [] w w1 := hu1.kp [] (.inr (by omega))
  (repeat first|refine zA ?_|refine zg ?_|refine zo rfl rfl trivial ?_|refine zn ?_)
  refine o_load (v := I x.k) rfl hB1 rfl rfl rfl rfl rfl ?_
  (repeat refine zo rfl rfl trivial ?_)
  by_cases h : x.k = 1
  · refine o_is true 3 false rfl rfl rfl (decide_eq_true h) ?_
    (repeat first|refine zo rfl rfl trivial ?_|refine zn ?_|refine zr ?_)
    exact ⟨_, rfl, by unfold accB; rw [decide_eq_true h]; rfl, k1⟩
  · refine o_is false 3 false rfl rfl rfl (decide_eq_false h) ?_
    (repeat refine zo rfl rfl trivial ?_)
    refine o_load (v := I x.k) rfl hB1 rfl rfl rfl rfl rfl ?_
    (repeat first|refine zo rfl rfl trivial ?_|refine zn ?_|refine zr ?_)
    exact ⟨_, rfl, by unfold accB; rw [decide_eq_false h]; rfl, k1⟩
set_option maxHeartbeats 6400000 in
theorem rRace_ret (h : RrAt w g E R) {i j : Nat} (hi : i < j) (hj : j < E.length) : Ret Tryz.prog 58 [ptr g.p, I i, I j] w (fun v w' => v = .bool (raceI E R i j) ∧ Kp [] w w') := by
  have hsm := h.small
  obtain ⟨eb, eo, hea, hei⟩ := h.toRrB.evat (i := i) (by omega) (by omega)
  obtain ⟨eb2, eo2, hea2, hej⟩ := h.toRrB.evat (i := j) (by omega) (by omega)
  rw [hea] at hea2
  cases hea2
  rw [Int.toNat_natCast] at hei hej
  have hh := h.hdr
  rw [hea] at hh
  unfold raceI
  generalize evA E i = a at hei ⊢
  generalize evA E j = b at hej ⊢
  refine enter Tryz.call58 Tryz.func58 rfl rfl rfl rfl ?_
  (repeat first|refine zA ?_|refine zB ?_|refine zg ?_|refine zo rfl rfl trivial ?_|refine zn ?_)
  refine o_call (rIs_ret h.toRrB i) rfl rfl rfl ?_
  rintro v w1 ⟨rfl, rfl⟩
  rw [decide_eq_true (p := (0 : Int) ≤ (i : Int) ∧ (i : Int) < (E.length : Int)) ⟨by omega, by omega⟩]
  (repeat first|refine zo rfl rfl trivial ?_|refine zU rfl rfl rfl ?_)
  refine o_call (rIs_ret h.toRrB j) rfl rfl rfl ?_
  rintro v w1 ⟨rfl, rfl⟩
  rw [decide_eq_true (p := (0 : Int) ≤ (j : Int) ∧ (j : Int) < (E.length : Int)) ⟨by omega, by omega⟩]
  (repeat first|refine zo rfl rfl trivial ?_|refine zn ?_|refine zU rfl rfl rfl ?_)
  refine r_if rfl (fun hc => ?_) (fun hc => ?_)
  · omega
  (repeat first|refine zA ?_|refine zg ?_|refine zo rfl rfl trivial ?_|refine zk ?_)
  refine o_load (v := .slice (some ⟨eb, eo, none⟩) E.length g.ecap) rfl hh rfl rfl rfl rfl rfl ?_
  (repeat refine zo rfl rfl (by first|exact trivial|(simp only[AllP];omega)) ?_)
  refine o_loadA (b := eb) (off := eo + i * 3) (vs := evC a) rfl (hei _ (Kp.refl _ _)) rfl rfl rfl rfl rfl rfl ?_
  refine o_alloc rfl rfl rfl rfl ?_
  intro ba w2 hba hu2
  refine o_storeA (cs := evC a) rfl hu2.blk (Nat.le_refl _) rfl (by simp [Value.oneCell']) rfl rfl rfl rfl ?_
  intro w3 hu3
  have k3 : Kp [] w1 w3 := (hu2.kp [] (.inr (by omega))).since (hu3.kp [ba] (.inl (by simp))) (by simp; omega)
  have hA3 : Blk w3 ba (evC a) 86 := hu3.blk
  (repeat first|refine zA ?_|refine zg ?_|refine zo rfl rfl trivial ?_|refine zn ?_)
  refine o_load (v := .slice (some ⟨eb, eo, none⟩) E.length g.ecap) rfl (k3.blk (by simp) hh) rfl rfl rfl rfl rfl ?_
  (repeat refine zo rfl rfl (by first|exact trivial|(simp only[AllP];omega)) ?_)
  refine o_loadA (b := eb) (off := eo + j * 3) (vs := evC b) rfl (hej _ k3) rfl rfl rfl rfl rfl rfl ?_
  refine o_alloc rfl rfl rfl rfl ?_
  intro bb w4 hbb hu4
  refine o_storeA (cs := evC b) rfl hu4.blk (Nat.le_refl _) rfl (by simp [Value.oneCell']) rfl rfl rfl rfl ?_
  intro w5 hu5
  have k5 : Kp [] w3 w5 := (hu4.kp [] (.inr (by omega))).since (hu5.kp [bb] (.inl (by simp))) (by simp; omega)
  have hB5 : Blk w5 bb (evC b) 86 := hu5.blk
  have hA5 := k5.blk (by simp) hA3
  have k15 := k3.trans k5
  (repeat first|refine zA ?_|refine zg ?_|refine zn ?_)
  refine o_loadA (vs := evC a) rfl (fun m v hv => by rw [Nat.zero_add]; exact hA5.cell hv) rfl rfl rfl rfl rfl rfl ?_
  refine o_call (raccess20_ret a) rfl rfl rfl ?_
  rintro v w6 ⟨rfl, k6⟩
  have k16 := k15.trans k6
  have hA6 := k6.blk (by simp) hA5
  have hB6 := k6.blk (by simp) hB5
  cases ha : accB a with
  | false =>
    (repeat first|refine zo rfl rfl trivial ?_|refine zn ?_|refine zr ?_|refine zU rfl rfl rfl ?_|refine zV rfl rfl rfl ?_)
    exact ⟨_, rfl, by simp, k16⟩
  | true =>
    (repeat first|refine zo rfl rfl trivial ?_|refine zT rfl rfl rfl ?_)
    refine o_loadA (vs := evC b) rfl (fun m v hv => by rw [Nat.zero_add]; exact hB6.cell hv) rfl rfl rfl rfl rfl rfl ?_
    refine o_call (raccess20_ret b) rfl rfl rfl ?_
    rintro v w7 ⟨rfl, k7⟩
    have k17 := k16.trans k7
    have hA := k7.blk (by simp) hA6
    have hB := k7.blk (by simp) hB6
    have h7 := h.kp0 k17
    cases hb : accB b with
    | false =>
      (repeat first|refine zo rfl rfl trivial ?_|refine zn ?_|refine zr ?_|refine zU rfl rfl rfl ?_|refine zV rfl rfl rfl ?_)
      exact ⟨_, rfl, by simp, k17⟩
    | true =>
      (repeat first|refine zo rfl rfl trivial ?_|refine zT rfl rfl rfl ?_)
      refine o_load (v := I a.o) rfl hA rfl rfl rfl rfl rfl ?_
      (repeat refine zo rfl rfl trivial ?_)
      refine o_load (v := I b.o) rfl hB rfl rfl rfl rfl rfl ?_
      (repeat refine zo rfl rfl trivial ?_)
      by_cases ho : a.o = b.o
      rotate_left
      · rw [decide_eq_false ho]
        (repeat first|refine zo rfl rfl trivial ?_|refine zn ?_|refine zr ?_|refine zU rfl rfl rfl ?_|refine zV rfl rfl rfl ?_)
        exact ⟨_, rfl, by simp, k17⟩
      rw [decide_eq_true ho]
      (repeat first|refine zo rfl rfl trivial ?_|refine zT rfl rfl rfl ?_)
      refine o_load (v := I a.t) rfl hA rfl rfl rfl rfl rfl ?_
      (repeat refine zo rfl rfl trivial ?_)
      refine o_load (v := I b.t) rfl hB rfl rfl rfl rfl rfl ?_
      (repeat refine zo rfl rfl trivial ?_)
      by_cases ht : a.t = b.t
      · rw [decide_eq_true ht]
        (repeat first|refine zo rfl rfl trivial ?_|refine zn ?_|refine zr ?_|refine zU rfl rfl rfl ?_|refine zV rfl rfl rfl ?_)
        exact ⟨_, rfl, by simp, k17⟩
      rw [decide_eq_false ht]
      (repeat first|refine zo rfl rfl trivial ?_|refine zT rfl rfl rfl ?_)
      refine o_load (v := I a.k) rfl hA rfl rfl rfl rfl rfl ?_
      (repeat refine zo rfl rfl trivial ?_)
      obtain ⟨bb8, rb, hbv, h1, h2, h3, h4⟩ := h7.bat (i := i) (j := j) ⟨by omega, by omega⟩ ⟨by omega, by omega⟩
      have hh7 := h7.hdr
      rw [hbv] at hh7
      by_cases q2 : a.k = 2
      · rw [decide_eq_true q2]
        (repeat first|refine zo rfl rfl trivial ?_|refine zT rfl rfl rfl ?_)
        refine o_load (v := .slice (some ⟨bb8, 0, none⟩) E.length E.length) rfl hh7 rfl rfl rfl rfl rfl ?_
        (repeat refine zo rfl rfl (by first|exact trivial|(simp only[AllP];omega)) ?_)
        refine o_load (b := bb8) (off := i) (v := .slice (some ⟨rb i, 0, none⟩) E.length E.length) (by show Value.pointer (some ⟨bb8, 0 + (i : Int).toNat, none⟩) = _; rw [Nat.zero_add, Int.toNat_natCast]) h1 h2 rfl rfl rfl rfl ?_
        (repeat refine zo rfl rfl (by first|exact trivial|(simp only[AllP];omega)) ?_)
        refine o_load (b := rb i) (off := j) (v := .bool (befI E R i j)) (by show Value.pointer (some ⟨rb i, 0 + (j : Int).toNat, none⟩) = _; rw [Nat.zero_add, Int.toNat_natCast]) h3 h4 rfl rfl rfl rfl ?_
        (repeat first|refine zo rfl rfl trivial ?_|refine zn ?_|refine zr ?_)
        exact ⟨_, rfl, by simp, k17⟩
      · rw [decide_eq_false q2]
        (repeat first|refine zo rfl rfl trivial ?_|refine zU rfl rfl rfl ?_)
        refine o_load (v := I b.k) rfl hB rfl rfl rfl rfl rfl ?_
        (repeat refine zo rfl rfl trivial ?_)
        by_cases q3 : b.k = 2
        · rw [decide_eq_true q3]
          (repeat first|refine zo rfl rfl trivial ?_|refine zT rfl rfl rfl ?_)
          refine o_load (v := .slice (some ⟨bb8, 0, none⟩) E.length E.length) rfl hh7 rfl rfl rfl rfl rfl ?_
          (repeat refine zo rfl rfl (by first|exact trivial|(simp only[AllP];omega)) ?_)
          refine o_load (b := bb8) (off := i) (v := .slice (some ⟨rb i, 0, none⟩) E.length E.length) (by show Value.pointer (some ⟨bb8, 0 + (i : Int).toNat, none⟩) = _; rw [Nat.zero_add, Int.toNat_natCast]) h1 h2 rfl rfl rfl rfl ?_
          (repeat refine zo rfl rfl (by first|exact trivial|(simp only[AllP];omega)) ?_)
          refine o_load (b := rb i) (off := j) (v := .bool (befI E R i j)) (by show Value.pointer (some ⟨rb i, 0 + (j : Int).toNat, none⟩) = _; rw [Nat.zero_add, Int.toNat_natCast]) h3 h4 rfl rfl rfl rfl ?_
          (repeat first|refine zo rfl rfl trivial ?_|refine zn ?_|refine zr ?_)
          exact ⟨_, rfl, by simp, k17⟩
        · rw [decide_eq_false q3]
          (repeat first|refine zo rfl rfl trivial ?_|refine zn ?_|refine zr ?_|refine zU rfl rfl rfl ?_)
          exact ⟨_, rfl, by simp, k17⟩
noncomputable def racesP (E : List Ev) (R : List Int) (j i : Nat) : List P3 := racesN E R j ++ racesJ E R j i
set_option maxHeartbeats 6400000 in
theorem rAll_ret (h : RrAt w g E R) : Ret Tryz.prog 24 [ptr g.p] w (fun v w' => ∃ ad cap, v = .slice ad (racesN E R E.length).length cap ∧ OwnS w' 61 3 ad (racesN E R E.length).length cap (prsC (racesN E R E.length)) ∧ Kp [] w w' ∧ ∀ b, b ∈ blkOf ad → w.heap.size ≤ b) := by
  have hsm := h.small
  refine enter Tryz.call24 Tryz.func24 rfl rfl rfl rfl ?_
  (repeat first|refine zA ?_|refine zB ?_|refine zg ?_|refine zo rfl rfl trivial ?_|refine zn ?_|refine zb ?_)
  refine r_loop (α := Nat × Option Addr × Nat) [0, 3, 4] (fun x => [ptr g.p, .slice x.2.1 (racesN E R x.1).length x.2.2, I x.1])
    (fun x W => x.1 ≤ E.length ∧ OwnS W 61 3 x.2.1 (racesN E R x.1).length x.2.2 (prsC (racesN E R x.1)) ∧ Kp [] w W ∧ ∀ b, b ∈ blkOf x.2.1 → w.heap.size ≤ b) (fun x => E.length - x.1) (0, none, 0) rfl ⟨by omega, ownS_nil _ _ _, Kp.refl _ _, by simp [blkOf]⟩ ?_
  rintro ⟨j, ax, cx⟩ e W ⟨hj, ho, kW, hn⟩
  dsimp only at hj ho hn ⊢
  (repeat first|refine zA ?_|refine zB ?_|refine zg ?_|refine zo rfl rfl trivial ?_)
  refine o_call (rLen_ret (h.kp0 kW).toRrB) rfl rfl rfl ?_
  rintro v W' ⟨rfl, rfl⟩
  (repeat first|refine zo rfl rfl trivial ?_|refine zn ?_)
  refine r_if rfl (fun hc => ?_) (fun hc => ?_)
  · have hjl : j < E.length := by omega
    have e0 : racesN E R j = racesP E R j 0 := by simp [racesP, racesJ]
    (repeat first|refine zA ?_|refine zC ?_|refine zg ?_|refine zo rfl rfl trivial ?_|refine zn ?_|refine zb ?_|refine zk ?_)
    refine r_loop (α := Nat × Option Addr × Nat) [0, 3, 4, 5] (fun x => [ptr g.p, .slice x.2.1 (racesP E R j x.1).length x.2.2, I j, I x.1])
      (fun x W => x.1 ≤ j ∧ OwnS W 61 3 x.2.1 (racesP E R j x.1).length x.2.2 (prsC (racesP E R j x.1)) ∧ Kp [] w W ∧ ∀ b, b ∈ blkOf x.2.1 → w.heap.size ≤ b) (fun x => j - x.1) (0, ax, cx) (by dsimp only; rw [← e0]; rfl) ⟨by dsimp only; omega, by dsimp only; rw [← e0]; exact ho, kW, hn⟩ ?_
    clear ho kW hn e0
    rintro ⟨i, ay, cy⟩ e W2 ⟨hi, ho, kW, hn⟩
    dsimp only at hi ho hn ⊢
    have hlen : (racesP E R j i).length ≤ 4194304 := by
      have h1 := racesN_le E R j
      have h2 := racesJ_le E R j i
      have h3 : j * j ≤ 2047 * 2047 := Nat.mul_le_mul (by omega) (by omega)
      unfold racesP
      rw [List.length_append]; omega
    (repeat first|refine zA ?_|refine zB ?_|refine zg ?_|refine zo rfl rfl trivial ?_|refine zn ?_)
    refine r_if rfl (fun hc2 => ?_) (fun hc2 => ?_)
    · have hij : i < j := by omega
      have h2 := h.kp0 kW
      (repeat first|refine zA ?_|refine zC ?_|refine zg ?_|refine zo rfl rfl trivial ?_|refine zb ?_|refine zk ?_)
      refine o_call (rRace_ret h2 hij hjl) rfl rfl rfl ?_
      rintro v w5 ⟨rfl, k5⟩
      have hsucc : racesP E R j (i + 1) = racesP E R j i ++ (if raceI E R i j = true then [((evA E j).o, i, j)] else []) := by unfold racesP; rw [racesJ_succ, List.append_assoc]
      have k05 := kW.trans k5
      (repeat refine zn ?_)
      cases hr : raceI E R i j with
      | false =>
        rw [hr] at hsucc
        simp only [Bool.false_eq_true, if_false, List.append_nil] at hsucc
        refine r_cond_f rfl ?_
        (repeat first|refine zg ?_|refine zo rfl rfl (by first|exact trivial|(simp only[AllP];omega)) ?_|refine zn ?_|refine zk ?_)
        exact ⟨(i + 1, ay, cy), by dsimp only; rw [hsucc]; rfl, ⟨by dsimp only; omega, by dsimp only; rw [hsucc]; exact ho.kp k5 (by simp), k05, hn⟩, by dsimp only; omega⟩
      | true =>
        rw [hr] at hsucc
        simp only [if_true] at hsucc
        have h5 := h2.kp0 k5
        obtain ⟨eb, eo, hea, hej⟩ := h5.toRrB.evat (i := j) (by omega) (by omega)
        rw [Int.toNat_natCast] at hej
        have hh := h5.hdr
        rw [hea] at hh
        refine r_cond_t rfl ?_
        (repeat first|refine zg ?_|refine zo rfl rfl trivial ?_)
        refine o_load (v := .slice (some ⟨eb, eo, none⟩) E.length g.ecap) rfl hh rfl rfl rfl rfl rfl ?_
        (repeat refine zo rfl rfl (by first|exact trivial|(simp only[AllP];omega)) ?_)
        refine o_loadc (b := eb) (off := eo + j * 3 + 2) (v := I (evA E j).o) rfl (hej _ (Kp.refl _ _) 2 _ rfl) rfl rfl rfl rfl ?_
        (repeat refine zo rfl rfl trivial ?_)
        refine o_build (pairC ((evA E j).o, i, j)) rfl rfl rfl rfl rfl rfl rfl ?_
        refine o_buildSliceN (pairC ((evA E j).o, i, j)) rfl rfl rfl (by kernel_rfl) rfl rfl rfl rfl ?_
        intro b9 w9 hb9 hu9
        have k9 : Kp [] w5 w9 := hu9.kp [] (.inr (by omega))
        refine o_append (pairC ((evA E j).o, i, j)) rfl rfl ((ho.kp k5 (by simp)).kp k9 (by simp)) (fun m v hv => by rw [addr_lit, Nat.zero_add]; exact hu9.blk.cell hv) rfl rfl rfl (by omega) rfl (by omega) (by simp [Value.oneCell']) (by simp only [maxLen]; omega) (by omega) rfl rfl ?_
        intro ad' cap' w10 ho10 k10 hn10
        have z8 := k05.size
        have z9 := k9.size
        (repeat first|refine zg ?_|refine zo rfl rfl (by first|exact trivial|(simp only[AllP];omega)) ?_|refine zn ?_)
        refine ⟨(i + 1, ad', cap'), by dsimp only; rw [hsucc, List.length_append]; rfl, ⟨by dsimp only; omega, ?_, (k05.trans k9).since k10 hn, fun b hb => ?_⟩, by dsimp only; omega⟩
        · dsimp only
          rw [hsucc, List.length_append, prsC_snoc]; exact ho10
        · rcases hn10 b hb with q | q
          · exact hn b q
          · omega
    · have e1 : i = j := by omega
      subst e1
      have e2 : racesP E R i i = racesN E R (i + 1) := by unfold racesP; rw [racesN_succ]
      rw [e2] at ho ⊢
      (repeat first|refine zg ?_|refine zo rfl rfl (by first|exact trivial|(simp only[AllP];omega)) ?_|refine zn ?_|refine ze rfl ?_)
      exact ⟨(i + 1, ay, cy), rfl, ⟨by dsimp only; omega, ho, kW, hn⟩, by dsimp only; omega⟩
  · have e1 : j = E.length := by omega
    subst e1
    (repeat first|refine zA ?_|refine zg ?_|refine zo rfl rfl trivial ?_|refine zn ?_|refine ze rfl ?_|refine zr ?_)
    exact ⟨_, rfl, ax, cx, rfl, ho, kW, hn⟩
end
theorem rAll_nil : Ret Tryz.prog 24 [.pointer none] w (fun v w' => v = .slice none 0 0 ∧ w' = w) := by
  refine enter Tryz.call24 Tryz.func24 rfl rfl rfl rfl ?_
  (repeat first|refine zA ?_|refine zB ?_|refine zg ?_|refine zo rfl rfl trivial ?_|refine zn ?_|refine zb ?_)
  refine r_loop (α := Unit) [0, 3, 4] (fun _ => [.pointer none, .slice none 0 0, I 0]) (fun _ wc => wc = w) (fun _ => 0) () rfl rfl ?_
  rintro _ e _ rfl
  (repeat first|refine zA ?_|refine zB ?_|refine zg ?_|refine zo rfl rfl trivial ?_)
  refine o_call rLen_nil rfl rfl rfl ?_
  rintro v wx ⟨rfl, rfl⟩
  (repeat first|refine zA ?_|refine zg ?_|refine zo rfl rfl trivial ?_|refine zn ?_|refine ze rfl ?_|refine zr ?_|refine zf rfl ?_)
  exact ⟨_, rfl, rfl, rfl⟩
section
variable {pb : Option Addr} {E : List Ev} {R : List Int}
theorem yAll_ret (h : RaV w (.pointer pb) E R) : Ret Tryz.prog 24 [.pointer pb] w (fun v w' => ∃ ad cap, v = .slice ad (racesN E R E.length).length cap ∧ OwnS w' 61 3 ad (racesN E R E.length).length cap (prsC (racesN E R E.length)) ∧ Kp [] w w' ∧ ∀ b, b ∈ blkOf ad → w.heap.size ≤ b) := by
  rcases h with ⟨e0, rfl, rfl⟩ | ⟨g, e0, h⟩ <;> cases e0
  · exact rAll_nil.mono fun v w' ⟨h1, h2⟩ => ⟨none, 0, h1, by subst h2; exact ownS_nil _ _ _, by subst h2; exact Kp.refl _ _, by simp [blkOf]⟩
  · exact rAll_ret h
theorem RaV.small (h : RaV w (.pointer pb) E R) : E.length ≤ 2048 := by
  rcases h with ⟨_, rfl, _⟩ | ⟨g, _, h⟩
  · simp
  · exact h.small
end
end Go.Vc
/- abreastref20: best, First, Pair, Flags. -/
namespace Go.Vc
open Go Go.Proofs
set_option maxRecDepth 10000
variable {w : World}
/-! ### the reference's best, plainly -/
def lastS (b : P3) (L : List P3) : P3 := L.foldl (fun b x => if x.2.2 = b.2.2 then x else b) b
theorem lastS_far {b : P3} : ∀ {L : List P3}, (∀ x ∈ L, b.2.2 < x.2.2) → lastS b L = b
  | [], _ => rfl
  | x :: r, h => by
    have := h x (by simp)
    show lastS (if x.2.2 = b.2.2 then x else b) r = b
    rw [if_neg (by omega)]
    exact lastS_far fun y hy => h y (by simp [hy])
theorem bestGo_last (wb : P3 → Bool) : ∀ {L : List P3} {b : P3}, (∀ x ∈ L, b.2.2 ≤ x.2.2) → L.Pairwise (fun x y => x.2.2 ≤ y.2.2) → bestGo wb (some b) L = some (lastS b (L.filter wb))
  | [], b, _, _ => rfl
  | x :: r, b, h, hp => by
    have hx := h x (by simp)
    rw [List.pairwise_cons] at hp
    by_cases hlt : b.2.2 < x.2.2
    · rw [bestGo_stop wb b x r hlt, lastS_far]
      intro y hy
      have hy := (List.mem_filter.1 hy).1
      rcases List.mem_cons.1 hy with rfl | hy
      · exact hlt
      · have := hp.1 y hy; omega
    · rw [bestGo_step wb (some b) x r (by intro b' hb'; cases hb'; exact hlt)]
      by_cases hw : wb x = true
      · rw [if_pos hw, List.filter_cons, if_pos hw, bestGo_last wb (fun y hy => hp.1 y hy) hp.2]
        show _ = some (lastS (if x.2.2 = b.2.2 then x else b) (r.filter wb))
        rw [if_pos (by omega)]
      · rw [if_neg hw, List.filter_cons, if_neg hw, bestGo_last wb (fun y hy => by have := hp.1 y hy; omega) hp.2]
theorem bestGo_ref (wb : P3 → Bool) : ∀ {L : List P3}, L.Pairwise (fun x y => x.2.2 ≤ y.2.2) → bestGo wb none L = (match L.filter wb with | [] => none | b :: _ => some (lastS b (L.filter wb)))
  | [], _ => rfl
  | x :: r, hp => by
    rw [List.pairwise_cons] at hp
    rw [bestGo_step wb none x r (by intro b' hb'; cases hb')]
    by_cases hw : wb x = true
    · rw [if_pos hw, List.filter_cons, if_pos hw, bestGo_last wb (fun y hy => hp.1 y hy) hp.2]
      show _ = some (lastS (if x.2.2 = x.2.2 then x else x) (r.filter wb))
      rw [if_pos rfl]
    · rw [if_neg hw, List.filter_cons, if_neg hw]
      exact bestGo_ref wb hp.2
theorem races_rise (E : List Ev) (R : List Int) : (racesN E R E.length).Pairwise (fun x y => x.2.2 ≤ y.2.2) :=
  (racesN_sorted (E := E) (R := R) E.length).imp fun h => by unfold Lx at h; omega
def bestR (L : List P3) : Option P3 := match L with
  | [] => none
  | b :: _ => some (lastS b L)
theorem firstV_ref (E : List Ev) (R : List Int) : firstV E R = bestR (racesN E R E.length) := by
  unfold firstV bestR
  rw [bestGo_ref _ (races_rise E R), List.filter_eq_self.2 (fun _ _ => rfl)]
theorem lastS_snoc (b : P3) (L : List P3) (x : P3) : lastS b (L ++ [x]) = if x.2.2 = (lastS b L).2.2 then x else lastS b L := by
  unfold lastS
  rw [List.foldl_append]; rfl
set_option maxHeartbeats 6400000 in
theorem rbest_ret {ad : Option Addr} {n cap : Nat} {L : List P3} (hr : ReadS w ad (prsC L)) (hn : L.length = n) (hl : n ≤ 4611686018427387904) : Ret Tryz.prog 56 [.slice ad n cap] w (fun v w' => v = .tuple #[.agg ⟨pairC ((bestR L).getD (0, 0, 0))⟩, .bool (bestR L).isSome] ∧ Kp [] w w') := by
  subst hn
  refine enterC Tryz.call56 Tryz.func56 rfl rfl rfl rfl ?_
  (repeat first|refine zA ?_|refine zg ?_)
  refine o_alloc rfl rfl rfl rfl ?_
  intro bs w1 hbs hu1
  have k1 : Kp [] w w1 := hu1.kp [] (.inr (by omega))
  have z1 := hu1.lt
  (repeat first|refine zA ?_|refine zB ?_|refine zg ?_|refine zo rfl rfl trivial ?_|refine zn ?_)
  cases L with
  | nil =>
    refine r_yes rfl (by simp) ?_
    (repeat first|refine zA ?_|refine zg ?_)
    refine o_build [I 0, I 0, I 0] rfl rfl rfl rfl rfl rfl rfl ?_
    refine o_storeA (cs := [I 0, I 0, I 0]) rfl hu1.blk (Nat.le_refl _) rfl (by simp [Value.oneCell']) rfl rfl rfl rfl ?_
    intro w3 hu3
    have k3 : Kp [] w w3 := k1.since (hu3.kp [bs] (.inl (by simp))) (by simp; omega)
    have hB3 : Blk w3 bs (pairC (0, 0, 0)) 61 := hu3.blk
    (repeat first|refine zo rfl rfl trivial ?_|refine zn ?_|refine zr ?_)
    exact ⟨[.agg ⟨pairC (0, 0, 0)⟩, .bool false], ⟨⟨_, rfl, run_loadB hB3 rfl rfl rfl rfl⟩, ⟨_, rfl⟩, trivial⟩, rfl, k3⟩
  | cons b0 rest =>
    generalize hL : b0 :: rest = L at *
    have hne : 0 < L.length := by rw [← hL]; simp
    have h0 : L[0]? = some b0 := by rw [← hL]; rfl
    have hb : bestR L = some (lastS b0 L) := by rw [← hL]; rfl
    rw [hb]
    refine r_no rfl (decide_eq_false (by omega)) ?_
    obtain ⟨b3, o3, rfl, hb3, hcell⟩ := hr.at_ (by rw [prsC_len]; omega)
    have hce : ∀ W, Kp [] w1 W → ∀ (k : Nat) x, L[k]? = some x → ∀ j v, (pairC x)[j]? = some v → W.cell? ⟨b3, o3 + k * 3 + j, none⟩ = some v := fun W k' k x hx j v hv => by
      rw [Nat.add_assoc, ← hcell _ _ (prsC_get hx hv)]
      exact World.cell?_of_block ((k1.trans k').at_ b3 hb3 (by simp))
    (repeat first|refine zA ?_|refine zg ?_|refine zo rfl rfl (by first|exact trivial|(simp only[AllP];omega)) ?_|refine zk ?_)
    refine o_loadA (b := b3) (off := o3 + 0 * 3) (vs := pairC b0) rfl (hce _ (Kp.refl _ _) 0 b0 h0) rfl rfl rfl rfl rfl rfl ?_
    refine o_alloc rfl rfl rfl rfl ?_
    intro bb w2 hbb hu2
    refine o_storeA (cs := pairC b0) rfl hu2.blk (Nat.le_refl _) rfl (by simp [Value.oneCell']) rfl rfl rfl rfl ?_
    intro w3 hu3
    have k3 : Kp [] w1 w3 := (hu2.kp [] (.inr (by omega))).since (hu3.kp [bb] (.inl (by simp))) (by simp; omega)
    have hB3 : Blk w3 bb (pairC b0) 61 := hu3.blk
    (repeat first|refine zA ?_|refine zB ?_|refine zg ?_|refine zo rfl rfl trivial ?_|refine zn ?_|refine zb ?_)
    refine r_loop (α := Nat) [0, 2, 4, 5] (fun i => [.slice (some ⟨b3, o3, none⟩) L.length cap, ptr bs, ptr bb, I i]) (fun i W => i ≤ L.length ∧ Kp [] w1 W ∧ Blk W bb (pairC (lastS b0 (L.take i))) 61) (fun i => L.length - i) 0 rfl ⟨by omega, k3, hB3⟩ ?_
    rintro i e W ⟨hi, kW, hB⟩
    (repeat first|refine zA ?_|refine zB ?_|refine zg ?_|refine zo rfl rfl trivial ?_|refine zn ?_)
    refine r_if rfl (fun hc => ?_) (fun hc => ?_)
    · have hlt : i < L.length := by omega
      obtain ⟨x, hx⟩ : ∃ x, L[i]? = some x := ⟨_, List.getElem?_eq_getElem hlt⟩
      have hsn : lastS b0 (L.take (i + 1)) = if x.2.2 = (lastS b0 (L.take i)).2.2 then x else lastS b0 (L.take i) := by rw [List.take_add_one, hx]; exact lastS_snoc _ _ _
      (repeat first|refine zC ?_|refine zb ?_|refine zk ?_)
      refine r_seq ?_
      refine r_quietS follows_mixed (by kernel_rfl) ?_
      (repeat refine yo rfl rfl (by first|exact trivial|(simp only[AllP];omega)) ?_)
      refine q_load (b := b3) (off := o3 + i * 3 + 2) (v := I (x.2.2 : Int)) rfl (fun W' s => hce W' (kW.trans (s.kp [])) i x hx 2 _ rfl) rfl rfl rfl rfl ?_
      (repeat refine yo rfl rfl trivial ?_)
      refine q_load (v := I ((lastS b0 (L.take i)).2.2 : Int)) rfl (fun W' s => (s.blk hB).cell rfl) rfl rfl rfl rfl ?_
      (repeat first|refine yo rfl rfl trivial ?_|refine yn ?_)
      intro W2 s2
      have k2 := kW.trans (s2.kp [])
      have hB2 := s2.blk hB
      refine r_if (p := (x.2.2 : Int) = ((lastS b0 (L.take i)).2.2 : Int)) rfl (fun hq => ?_) (fun hq => ?_)
      · rw [if_pos (by omega)] at hsn
        (repeat first|refine zg ?_|refine zo rfl rfl (by first|exact trivial|(simp only[AllP];omega)) ?_)
        refine o_loadA (b := b3) (off := o3 + i * 3) (vs := pairC x) rfl (hce W2 k2 i x hx) rfl rfl rfl rfl rfl rfl ?_
        refine o_storeA (cs := pairC x) rfl hB2 (Nat.le_refl _) rfl (by simp [Value.oneCell']) rfl rfl rfl rfl ?_
        intro W3 hu4
        have k4 := k2.since (hu4.kp [bb] (.inl (by simp))) (by have := k1.size; simp; omega)
        have hB4 : Blk W3 bb (pairC x) 61 := hu4.blk
        (repeat first|refine zg ?_|refine zo rfl rfl (by first|exact trivial|(simp only[AllP];omega)) ?_|refine zn ?_)
        exact ⟨i + 1, rfl, ⟨by omega, k4, by rw [hsn]; exact hB4⟩, by omega⟩
      · rw [if_neg (by omega)] at hsn
        (repeat first|refine zg ?_|refine zo rfl rfl (by first|exact trivial|(simp only[AllP];omega)) ?_|refine zn ?_|refine zk ?_)
        exact ⟨i + 1, rfl, ⟨by omega, k2, by rw [hsn]; exact hB2⟩, by omega⟩
    · have : i = L.length := by omega
      subst this
      rw [List.take_length] at hB
      have hS := kW.blk (by simp) hu1.blk
      (repeat first|refine zA ?_|refine zg ?_|refine ze rfl ?_)
      refine o_loadA (vs := pairC (lastS b0 L)) rfl (fun j v hv => by rw [Nat.zero_add]; exact hB.cell hv) rfl rfl rfl rfl rfl rfl ?_
      refine o_storeA (cs := pairC (lastS b0 L)) rfl hS (Nat.le_refl _) rfl (by simp [Value.oneCell']) rfl rfl rfl rfl ?_
      intro w5 hu5
      have k5 : Kp [] w w5 := (k1.trans kW).since (hu5.kp [bs] (.inl (by simp))) (by simp; omega)
      have hB5 : Blk w5 bs (pairC (lastS b0 L)) 61 := hu5.blk
      (repeat first|refine zo rfl rfl trivial ?_|refine zn ?_|refine zr ?_)
      exact ⟨[.agg ⟨pairC (lastS b0 L)⟩, .bool true], ⟨⟨_, rfl, run_loadB hB5 rfl rfl rfl rfl⟩, ⟨_, rfl⟩, trivial⟩, rfl, k5⟩
section
variable {pb : Option Addr} {E : List Ev} {R : List Int}
theorem yFirst_ret (h : RaV w (.pointer pb) E R) : Ret Tryz.prog 23 [.pointer pb] w (fun v w' => v = .tuple #[.agg ⟨pairC ((firstV E R).getD (0, 0, 0))⟩, .bool (firstV E R).isSome] ∧ Kp [] w w') := by
  have hsm := racesN_small R h.small
  refine enterC Tryz.call23 Tryz.func23 rfl rfl rfl rfl ?_
  (repeat first|refine zA ?_|refine zg ?_)
  refine o_alloc rfl rfl rfl rfl ?_
  intro bs w1 hbs hu1
  have k1 : Kp [] w w1 := hu1.kp [] (.inr (by omega))
  (repeat first|refine zA ?_|refine zg ?_|refine zo rfl rfl trivial ?_|refine zn ?_)
  refine o_call (yAll_ret (h.kp0 k1)) rfl rfl rfl ?_
  rintro q w2 ⟨ad, cap, rfl, ho, k2, _⟩
  refine o_call (rbest_ret ho.readN rfl (by omega)) rfl rfl rfl ?_
  rintro q w3 ⟨rfl, k3⟩
  rw [← firstV_ref]
  have hS := (k2.trans k3).blk (by simp) hu1.blk
  (repeat refine zo rfl rfl trivial ?_)
  refine o_storeA (cs := pairC ((firstV E R).getD (0, 0, 0))) rfl hS (Nat.le_refl _) rfl (by simp [Value.oneCell']) rfl rfl rfl rfl ?_
  intro w5 hu5
  have k5 : Kp [] w w5 := (k1.trans (k2.trans k3)).since (hu5.kp [bs] (.inl (by simp))) (by simp; omega)
  have hB5 : Blk w5 bs (pairC ((firstV E R).getD (0, 0, 0))) 61 := hu5.blk
  (repeat first|refine zo rfl rfl trivial ?_|refine zn ?_|refine zr ?_)
  exact ⟨[.agg ⟨pairC ((firstV E R).getD (0, 0, 0))⟩, .bool (firstV E R).isSome], ⟨⟨_, rfl, run_loadB hB5 rfl rfl rfl rfl⟩, ⟨_, rfl⟩, trivial⟩, rfl, k5⟩
end
end Go.Vc
