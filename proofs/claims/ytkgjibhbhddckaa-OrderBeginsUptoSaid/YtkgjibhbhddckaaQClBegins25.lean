/- order: race; All. -/
import Derived.Test.YtkgjibhbhddckaaQClBegins24
import Derived.Test.YtkgjibhbhddckaaQClBegins11
import Derived.Test.YtkgjibhbhddckaaQClBegins6
import Derived.Scope
namespace Go.Vc
open Go Go.Proofs
set_option maxRecDepth 10000
variable {w : World}
def accB (e : Ev) : Bool := decide (e.k = 1) || decide (e.k = 2)
noncomputable def raceI (E : List Ev) (R : List Int) (i j : Nat) : Bool :=
  (accB (evA E i) && (accB (evA E j) && (decide ((evA E i).o = (evA E j).o) && !decide ((evA E i).t = (evA E j).t)))) && ((decide ((evA E i).k = 2) || decide ((evA E j).k = 2)) && !befI E R i j)
theorem oaccess_ret (x : Ev) : Ret Try.prog 92 [.agg ⟨evC x⟩] w (fun v w' => v = .bool (accB x) ∧ Kp [] w w') := by
  refine enter Try.call92 Try.func92 rfl rfl rfl rfl ?_
  (repeat first|refine zA ?_|refine zg ?_)
  refine o_box rfl rfl rfl ?_
  intro bx w1 hbx hu1
  have hB1 : Blk w1 bx (evC x) 59 := hu1.blk
  have k1 : Kp [] w w1 := hu1.kp [] (.inr (by omega))
  (repeat first|refine zA ?_|refine zg ?_|refine zo rfl rfl trivial ?_|refine zn ?_)
  refine o_load (v := I x.k) rfl hB1 rfl rfl rfl rfl rfl ?_
  (repeat refine zo rfl rfl trivial ?_)
  by_cases h : x.k = 1
  · refine o_is true 3 false rfl rfl rfl (decide_eq_true h) ?_
    (repeat first|refine zo rfl rfl trivial ?_|refine zn ?_|refine zr ?_)
    exact ⟨_, rfl, by unfold accB; rw [decide_eq_true h]; rfl, k1⟩
  · refine o_is false 3 false rfl rfl rfl (decide_eq_false h) ?_
    (repeat refine zo rfl rfl trivial ?_)
    refine o_load (v := I x.k) rfl hB1 rfl rfl rfl rfl rfl ?_
    (repeat first|refine zo rfl rfl trivial ?_|refine zn ?_|refine zr ?_)
    exact ⟨_, rfl, by unfold accB; rw [decide_eq_false h]; rfl, k1⟩
section
variable {g : OrG} {E : List Ev} {R : List Int}
set_option maxHeartbeats 6400000 in
theorem orace_ret (h : OrAt w g E R) {i j : Nat} (hi : i < E.length) (hj : j < E.length) : Ret Try.prog 71 [ptr g.p, I i, I j] w (fun v w' => v = .bool (raceI E R i j) ∧ Kp [] w w') := by
  have hsm := h.small
  obtain ⟨eb, eo, hea, hei⟩ := h.toOrB.evat (i := i) (by omega) (by omega)
  obtain ⟨eb2, eo2, hea2, hej⟩ := h.toOrB.evat (i := j) (by omega) (by omega)
  rw [hea] at hea2
  cases hea2
  rw [Int.toNat_natCast] at hei hej
  have hh := h.hdr
  rw [hea] at hh
  unfold raceI
  generalize evA E i = a at hei ⊢
  generalize evA E j = b at hej ⊢
  refine enter Try.call71 Try.func71 rfl rfl rfl rfl ?_
  (repeat first|refine zA ?_|refine zg ?_|refine zo rfl rfl trivial ?_|refine zn ?_)
  refine r_seq ?_
  refine r_cut (α := Nat × Nat) [0, 1, 2, 7, 8] (fun x => [ptr g.p, I i, I j, ptr x.1, ptr x.2]) (fun x w' => Kp [] w w' ∧ Blk w' x.1 (evC a) 59 ∧ Blk w' x.2 (evC b) 59) ?_ ?_
  · refine r_any (fun w' => Kp [] w w') 18 follows_mixed (by kernel_rfl) ?_
    have kk := (Sm.drew w).kp []
    generalize ({ w with drawn := w.drawn + 1 } : World) = wd at kk ⊢
    refine t_seg [0, 1, 2, 3, 4, 5, 6, 7, 8, 9, 10, 11, 12, 13] 4 (by kernel_rfl) (by kernel_rfl) (by kernel_rfl) kk ?_
    try dsimp only [List.map_cons, List.map_nil]
    (repeat refine xo rfl rfl trivial ?_)
    refine x_load (v := .slice (some ⟨eb, eo, none⟩) E.length g.ecap) rfl rfl (fun w' h' => (h'.blk (by simp) hh).cell rfl) rfl rfl rfl rfl ?_
    (repeat refine xo rfl rfl (by first|exact trivial|(simp only[AllP];omega)) ?_)
    refine x_loadA (b := eb) (off := eo + i * 3) (vs := evC a) rfl rfl (fun w' h' => hei w' h') rfl rfl rfl rfl rfl rfl ?_
    (repeat refine xo rfl rfl trivial ?_)
    refine x_load (v := .slice (some ⟨eb, eo, none⟩) E.length g.ecap) rfl rfl (fun w' h' => (h'.blk (by simp) hh).cell rfl) rfl rfl rfl rfl ?_
    (repeat refine xo rfl rfl (by first|exact trivial|(simp only[AllP];omega)) ?_)
    refine x_loadA (b := eb) (off := eo + j * 3) (vs := evC b) rfl rfl (fun w' h' => hej w' h') rfl rfl rfl rfl rfl rfl ?_
    (repeat refine xn ?_)
    refine t_with (fun e w' => ∃ ba bb : Nat, [0, 1, 2, 15, 22, 7, 8].map e = [ptr g.p, I i, I j, .agg ⟨evC a⟩, .agg ⟨evC b⟩, ptr ba, ptr bb] ∧ Kp [] w w' ∧ Blk w' ba [I 0, I 0, I 0] 59 ∧ Blk w' bb [I 0, I 0, I 0] 59 ∧ ba ≠ bb ∧ w.heap.size ≤ ba ∧ w.heap.size ≤ bb) 2 [0, 1, 2, 3, 4, 5, 6, 7, 8, 9, 10, 11, 12, 13, 14, 15] ?_ (fun hleaf => ?_)
    · rintro e wz ⟨ba, bb, he, kz, hA, hB, hne, hna, hnb⟩
      rw [← over_eq he]
      refine t_one 16 (by kernel_rfl) rfl ?_
      refine o_storeA (cs := evC a) rfl hA (by simp) rfl (by simp [Value.oneCell']) rfl rfl rfl rfl ?_
      intro w3 hu3
      have k3 := kz.since (hu3.kp [ba] (.inl (by simp))) (by simp; omega)
      have hA3 : Blk w3 ba (evC a) 59 := hu3.blk
      have hB3 := hu3.kept (fun e => hne e.symm) hB
      refine o_nil ⟨.inr k3, ?_⟩
      refine t_one 17 (by kernel_rfl) rfl ?_
      refine o_storeA (cs := evC b) rfl hB3 (by simp) rfl (by simp [Value.oneCell']) rfl rfl rfl rfl ?_
      intro w4 hu4
      have k4 := k3.since (hu4.kp [bb] (.inl (by simp))) (by simp; omega)
      have hB4 : Blk w4 bb (evC b) 59 := hu4.blk
      have hA4 := hu4.kept hne hA3
      refine o_nil ⟨.inl (by kernel_rfl), ?_⟩
      refine t_end (by kernel_rfl) ?_
      exact ⟨(ba, bb), rfl, k4, hA4, hB4⟩
    refine t_two 14 15 (by kernel_rfl) rfl rfl ?_ ?_
    · refine o_alloc rfl rfl rfl rfl ?_
      intro ba w3 hba hu3
      have k3 := kk.trans (hu3.kp [] (.inr (by omega)))
      have z3 := hu3.lt
      refine o_nil ⟨.inr k3, ?_⟩
      refine t_one 15 (by kernel_rfl) rfl ?_
      refine o_alloc rfl rfl rfl rfl ?_
      intro bb w4 hbb hu4
      have k4 := k3.trans (hu4.kp [] (.inr (by omega)))
      have zk := kk.size
      refine o_nil ⟨.inr k4, ?_⟩
      exact t_same (by kernel_rfl) (hleaf _ _ ⟨ba, bb, rfl, k4, hu4.kept (by omega) hu3.blk, hu4.blk, by omega, by omega, by omega⟩)
    · refine o_alloc rfl rfl rfl rfl ?_
      intro bb w3 hbb hu3
      have k3 := kk.trans (hu3.kp [] (.inr (by omega)))
      have z3 := hu3.lt
      refine o_nil ⟨.inr k3, ?_⟩
      refine t_one 14 (by kernel_rfl) rfl ?_
      refine o_alloc rfl rfl rfl rfl ?_
      intro ba w4 hba hu4
      have k4 := k3.trans (hu4.kp [] (.inr (by omega)))
      have zk := kk.size
      refine o_nil ⟨.inr k4, ?_⟩
      exact t_same (by kernel_rfl) (hleaf _ _ ⟨ba, bb, rfl, k4, hu4.blk, hu4.kept (by omega) hu3.blk, by omega, by omega, by omega⟩)
  rintro ⟨ba, bb⟩ e w2 ⟨k2, hA, hB⟩
  dsimp only at hA hB ⊢
  (repeat first|refine zA ?_|refine zB ?_|refine zg ?_)
  refine o_loadA (vs := evC a) rfl (fun j v hv => by rw [Nat.zero_add]; exact hA.cell hv) rfl rfl rfl rfl rfl rfl ?_
  refine o_call (oaccess_ret a) rfl rfl rfl ?_
  rintro v w3 ⟨rfl, k3⟩
  have hA3 := k3.blk (by simp) hA
  have hB3 := k3.blk (by simp) hB
  have k23 := k2.trans k3
  cases q0 : accB a with
  | false =>
    (repeat first|refine zA ?_|refine zg ?_|refine zo rfl rfl trivial ?_|refine zn ?_|refine zr ?_|refine zT rfl rfl rfl ?_|refine zt rfl ?_)
    exact ⟨_, rfl, rfl, k23⟩
  | true =>
  (repeat first|refine zo rfl rfl trivial ?_|refine zU rfl rfl rfl ?_)
  refine o_loadA (vs := evC b) rfl (fun j v hv => by rw [Nat.zero_add]; exact hB3.cell hv) rfl rfl rfl rfl rfl rfl ?_
  refine o_call (oaccess_ret b) rfl rfl rfl ?_
  rintro v w4 ⟨rfl, k4⟩
  have hA4 := k4.blk (by simp) hA3
  have hB4 := k4.blk (by simp) hB3
  have k24 := k23.trans k4
  cases q1 : accB b with
  | false =>
    (repeat first|refine zA ?_|refine zg ?_|refine zo rfl rfl trivial ?_|refine zn ?_|refine zr ?_|refine zT rfl rfl rfl ?_|refine zt rfl ?_)
    exact ⟨_, rfl, rfl, k24⟩
  | true =>
  (repeat first|refine zo rfl rfl trivial ?_|refine zU rfl rfl rfl ?_)
  refine o_load (b := ba) (off := 2) (v := I a.o) rfl hA4 rfl rfl rfl rfl rfl ?_
  (repeat refine zo rfl rfl trivial ?_)
  refine o_load (b := bb) (off := 2) (v := I b.o) rfl hB4 rfl rfl rfl rfl rfl ?_
  (repeat refine zo rfl rfl trivial ?_)
  by_cases q2 : a.o = b.o
  rotate_left
  · refine o_is true 15 false rfl rfl rfl (by simp [q2]) ?_
    (repeat first|refine zA ?_|refine zg ?_|refine zo rfl rfl trivial ?_|refine zn ?_|refine zr ?_|refine zt rfl ?_)
    exact ⟨_, rfl, by simp [q2], k24⟩
  refine o_is false 15 false rfl rfl rfl (by simp [q2]) ?_
  (repeat refine zo rfl rfl trivial ?_)
  refine o_load (b := ba) (off := 1) (v := I a.t) rfl hA4 rfl rfl rfl rfl rfl ?_
  (repeat refine zo rfl rfl trivial ?_)
  refine o_load (b := bb) (off := 1) (v := I b.t) rfl hB4 rfl rfl rfl rfl rfl ?_
  (repeat first|refine zo rfl rfl trivial ?_|refine zn ?_)
  by_cases q3 : a.t = b.t
  · refine r_yes rfl (by simp [q3]) ?_
    (repeat first|refine zA ?_|refine zg ?_|refine zo rfl rfl trivial ?_|refine zn ?_|refine zr ?_)
    exact ⟨_, rfl, by simp [q3], k24⟩
  refine r_no rfl (by simp [q3]) ?_
  have hfin : ∀ x y : Bool, ((true && (true && (decide (a.o = b.o) && !decide (a.t = b.t)))) && (x && y)) = (x && y) := fun x y => by simp [q2, q3]
  rw [hfin]
  have h4 := h.kp0 k24
  (repeat first|refine zA ?_|refine zg ?_|refine zo rfl rfl trivial ?_|refine zk ?_)
  refine o_load (b := ba) (off := 0) (v := I a.k) rfl hA4 rfl rfl rfl rfl rfl ?_
  (repeat refine zo rfl rfl trivial ?_)
  by_cases q4 : a.k = 2
  · refine o_is true 3 false rfl rfl rfl (decide_eq_true q4) ?_
    (repeat first|refine zo rfl rfl trivial ?_|refine zT rfl rfl rfl ?_)
    refine o_call (oBefore_ret h4 i j) rfl rfl rfl ?_
    rintro v w5 ⟨rfl, rfl⟩
    (repeat first|refine zo rfl rfl trivial ?_|refine zn ?_|refine zr ?_)
    exact ⟨_, rfl, by rw [decide_eq_true q4]; rfl, k24⟩
  refine o_is false 3 false rfl rfl rfl (decide_eq_false q4) ?_
  (repeat refine zo rfl rfl trivial ?_)
  refine o_load (b := bb) (off := 0) (v := I b.k) rfl hB4 rfl rfl rfl rfl rfl ?_
  (repeat refine zo rfl rfl trivial ?_)
  by_cases q5 : b.k = 2
  · refine o_is true 8 true rfl rfl rfl (decide_eq_true q5) ?_
    (repeat refine zo rfl rfl trivial ?_)
    refine o_call (oBefore_ret h4 i j) rfl rfl rfl ?_
    rintro v w5 ⟨rfl, rfl⟩
    (repeat first|refine zo rfl rfl trivial ?_|refine zn ?_|refine zr ?_)
    exact ⟨_, rfl, by rw [decide_eq_true q5, Bool.or_true, Bool.true_and], k24⟩
  · refine o_is false 8 true rfl rfl rfl (decide_eq_false q5) ?_
    (repeat first|refine zo rfl rfl trivial ?_|refine zn ?_|refine zr ?_)
    exact ⟨_, rfl, by rw [decide_eq_false q4, decide_eq_false q5]; rfl, k24⟩
end
end Go.Vc
/- order: All's iterator. -/
namespace Go.Vc
open Go Go.Proofs
set_option maxRecDepth 10000
variable {w : World}
theorem r_scope {P : Program} {n : Nat} {c : Code} {K : EPost} {X : List (Nat × EPost)} {R : EPost} {e : Env} (h : Wp none P n c K X R e w) : Wp none P n (.scope c) K X R e w := by
  intro ds a ha
  have h1 := h ds a ha
  rw [FW_none, wpIn_wide] at h1 ⊢
  refine wp_scope_straight (wp_mono h1 ?_)
  intro x a w hq
  cases x with
  | goto l => exact hq
  | normal => exact hq
  | exit id => exact hq
  | ret => exact hq
  | panic c => exact hq
  | outgrown => exact hq
theorem r_label {P : Program} {n l : Nat} {K : EPost} {X : List (Nat × EPost)} {R : EPost} {e : Env} {ro : Option Nat} (h : K e w) : Wp ro P n (.label l) K X R e w := fun _ _ ha => wpIn_label ⟨e, ha, h⟩
abbrev P3 := Int × Nat × Nat
abbrev pairC (x : P3) : List Value := [I x.1, I x.2.1, I x.2.2]
abbrev pairE (x : P3) : List Value := [.agg ⟨pairC x⟩]
noncomputable def racesJ (E : List Ev) (R : List Int) (j i : Nat) : List P3 := (List.range i).filterMap fun i => if raceI E R i j = true then some ((evA E j).o, i, j) else none
noncomputable def racesN (E : List Ev) (R : List Int) (n : Nat) : List P3 := (List.range n).flatMap fun j => racesJ E R j j
theorem racesJ_succ (E : List Ev) (R : List Int) (j i : Nat) : racesJ E R j (i + 1) = racesJ E R j i ++ (if raceI E R i j = true then [((evA E j).o, i, j)] else []) := by
  unfold racesJ
  rw [List.range_succ, List.filterMap_append]
  congr 1
  simp only [List.filterMap_cons, List.filterMap_nil]
  split <;> rename_i h <;> (split at h <;> simp_all)
theorem racesN_succ (E : List Ev) (R : List Int) (n : Nat) : racesN E R (n + 1) = racesN E R n ++ racesJ E R n n := by
  unfold racesN
  rw [List.range_succ, List.flatMap_append]; simp
theorem racesJ_pre (E : List Ev) (R : List Int) (j : Nat) {i k : Nat} (h : i ≤ k) : ∃ t, racesJ E R j k = racesJ E R j i ++ t := by
  induction k with
  | zero => have : i = 0 := by omega
            subst this; exact ⟨[], by simp⟩
  | succ k ih =>
    by_cases q : i = k + 1
    · subst q; exact ⟨[], by simp⟩
    · obtain ⟨t, ht⟩ := ih (by omega)
      exact ⟨t ++ (if raceI E R k j = true then [((evA E j).o, k, j)] else []), by rw [racesJ_succ, ht, List.append_assoc]⟩
theorem racesN_pre (E : List Ev) (R : List Int) {i k : Nat} (h : i ≤ k) : ∃ t, racesN E R k = racesN E R i ++ t := by
  induction k with
  | zero => have : i = 0 := by omega
            subst this; exact ⟨[], by simp⟩
  | succ k ih =>
    by_cases q : i = k + 1
    · subst q; exact ⟨[], by simp⟩
    · obtain ⟨t, ht⟩ := ih (by omega)
      exact ⟨t ++ racesJ E R k k, by rw [racesN_succ, ht, List.append_assoc]⟩
section
variable {g : OrG} {E : List Ev} {R : List Int}
theorem races_split {j i n : Nat} (hj : j < n) (hi : i < j) (hr : raceI E R i j = true) : ∃ post, racesN E R n = (racesN E R j ++ racesJ E R j i) ++ ((evA E j).o, i, j) :: post := by
  obtain ⟨t, ht⟩ := racesN_pre E R (show j + 1 ≤ n by omega)
  obtain ⟨u, hu⟩ := racesJ_pre E R j (show i + 1 ≤ j by omega)
  rw [racesN_succ, hu, racesJ_succ, if_pos hr] at ht
  exact ⟨u ++ t, by rw [ht]; simp⟩
theorem ReadS.heap {W : World} {ad : Option Addr} {xs : List Value} (h : ReadS w ad xs) (hp : ∀ b, b ∈ blkOf ad → W.heap[b]? = w.heap[b]?) : ReadS W ad xs := by
  cases ad with
  | none => exact h
  | some ad =>
    intro i v hv
    obtain ⟨b, off, he, hb, hc⟩ := h.at_ (by have := (List.getElem?_eq_some_iff.1 hv).1; omega)
    simp only [Option.some.injEq] at he
    subst he
    rw [addr_lit, ← hc i v hv]
    exact World.cell?_of_block (hp _ (by simp [blkOf]))
theorem OrAt.heap {W : World} (h : OrAt w g E R) (hp : ∀ b, b ∈ g.F → W.heap[b]? = w.heap[b]?) : OrAt W g E R := by
  have hb : ∀ {b : Nat} {l : List Value} {T : TypeId}, b ∈ g.F → Blk w b l T → Blk W b l T := fun hm hB => by unfold Blk; rw [hp _ hm]; exact hB
  have m1 : g.p ∈ g.F := by simp [OrG.F]
  have m2 : ∀ b, b ∈ blkOf g.ead → b ∈ g.F := fun b hb => by simp [OrG.F, hb]
  have m3 : ∀ b, b ∈ blkOf g.rad → b ∈ g.F := fun b hb => by simp [OrG.F, hb]
  have m4 : ∀ b, b ∈ relBlks g.rp g.mad g.bs → b ∈ g.F := fun b hb => by simp [OrG.F, hb]
  refine ⟨⟨hb m1 h.hdr, h.ev.heap (fun b hb => hp b (m2 b hb)), h.ro.heap (fun b hb => hp b (m3 b hb)), h.lr, h.small⟩, ?_, h.bits, fun b hb => ?_⟩
  rotate_left
  · have q := hp b hb
    rw [Array.getElem?_eq_getElem (h.fl b hb)] at q
    exact (Array.getElem?_eq_some_iff.1 q).1
  exact ⟨hb (m4 _ (by simp [relBlks])) h.rel.hdr, h.rel.own.keep (fun b hb => hp b (m4 _ (by simp [relBlks, hb]))), h.rel.nb, h.rel.nM, h.rel.small, fun i b ws h1 h2 => ⟨hb (m4 _ (by simp [relBlks, List.mem_of_getElem? h1])) (h.rel.row i b ws h1 h2).1, (h.rel.row i b ws h1 h2).2⟩, h.rel.nodup⟩
set_option maxHeartbeats 6400000 in
theorem oall_iter (h : OrAt w g E R) (hw : ∀ b, b ∈ g.F → b < w.heap.size) {bx : Nat} (hbx : Blk w bx [ptr g.p] 26) : Iter Try.prog 70 [ptr bx] (bx :: g.F) pairE (racesN E R E.length) w := by
  have hsm := h.small
  refine ⟨?_, ?_⟩
  · intro b hb
    rcases List.mem_cons.1 hb with rfl | hb
    · exact hbx.lt
    · exact hw b hb
  intro l w1 J Jx hsz hpriv hstab hJ0 hY hstabx
  have facts : ∀ pre W, J pre W → OrAt W g E R ∧ Blk W bx [ptr g.p] 26 := fun pre W hJ => by
    have hp := hpriv pre W hJ
    exact ⟨h.heap (fun b hb => hp b (by simp [hb])), by unfold Blk; rw [hp bx (by simp)]; exact hbx⟩
  obtain ⟨h1, hb1⟩ := facts _ _ hJ0
  refine enter Try.call70 Try.func70 rfl rfl rfl rfl ?_
  refine r_scope ?_
  refine r_seq (r_label ?_)
  (repeat first|refine zA ?_|refine zg ?_)
  refine o_load rfl hb1 rfl rfl rfl rfl rfl ?_
  refine o_call (oLen_ret h1.toOrB) rfl rfl rfl ?_
  rintro v w2 ⟨rfl, rfl⟩
  (repeat first|refine zo rfl rfl trivial ?_|refine zn ?_|refine zb ?_)
  refine r_loop (α := Nat) [0, 1, 6, 7] (fun j => [yv l, ptr bx, I E.length, I j]) (fun j W => j ≤ E.length ∧ J (racesN E R j) W) (fun j => E.length - j) 0 rfl ⟨by omega, hJ0⟩ ?_
  rintro j e W ⟨hj, hJ⟩
  (repeat first|refine zA ?_|refine zD ?_|refine zg ?_|refine zo rfl rfl trivial ?_|refine zn ?_)
  refine r_if rfl (fun hc => ?_) (fun hc => ?_)
  · have hjn : j < E.length := by omega
    (repeat first|refine zA ?_|refine zC ?_|refine zg ?_|refine zo rfl rfl trivial ?_|refine zn ?_|refine zb ?_|refine zk ?_)
    refine r_loop (α := Nat) [0, 1, 3, 6, 7, 10, 11] (fun i => [yv l, ptr bx, I j, I E.length, I j, I j, I i]) (fun i W => i ≤ j ∧ J (racesN E R j ++ racesJ E R j i) W) (fun i => j - i) 0 rfl ⟨by omega, by rw [show racesJ E R j 0 = [] from rfl, List.append_nil]; exact hJ⟩ ?_
    rintro i e W2 ⟨hi, hJ2⟩
    obtain ⟨h2, hb2⟩ := facts _ _ hJ2
    (repeat first|refine zA ?_|refine zD ?_|refine zg ?_|refine zo rfl rfl trivial ?_|refine zn ?_)
    refine r_if rfl (fun hc2 => ?_) (fun hc2 => ?_)
    · have hij : i < j := by omega
      (repeat first|refine zA ?_|refine zC ?_|refine zg ?_|refine zo rfl rfl trivial ?_|refine zn ?_|refine zb ?_|refine zk ?_)
      refine o_load rfl hb2 rfl rfl rfl rfl rfl ?_
      (repeat refine zo rfl rfl trivial ?_)
      refine o_call (orace_ret h2 (i := i) (j := j) (by omega) hjn) rfl rfl rfl ?_
      rintro v W3 ⟨rfl, k3⟩
      have hJ3 := hstab _ _ _ hJ2 k3
      obtain ⟨h3, hb3⟩ := facts _ _ hJ3
      have hsu := racesJ_succ E R j i
      cases hr : raceI E R i j with
      | false =>
        rw [hr, if_neg (by simp), List.append_nil] at hsu
        (repeat first|refine zg ?_|refine zo rfl rfl (by first|exact trivial|(simp only[AllP];omega)) ?_|refine zn ?_|refine zk ?_|refine zU rfl rfl rfl ?_|refine zf rfl ?_)
        exact ⟨i + 1, rfl, ⟨by omega, by rw [hsu]; exact hJ3⟩, by omega⟩
      | true =>
        rw [hr, if_pos rfl] at hsu
        obtain ⟨post, hpost⟩ := races_split hjn hij hr
        obtain ⟨eb, eo, hea, hej⟩ := h3.toOrB.evat (i := j) (by omega) (by omega)
        rw [Int.toNat_natCast] at hej
        have hh := h3.hdr
        rw [hea] at hh
        (repeat first|refine zo rfl rfl trivial ?_|refine zT rfl rfl rfl ?_)
        refine o_load rfl hb3 rfl rfl rfl rfl rfl ?_
        (repeat refine zo rfl rfl trivial ?_)
        refine o_load (v := .slice (some ⟨eb, eo, none⟩) E.length g.ecap) rfl hh rfl rfl rfl rfl rfl ?_
        (repeat refine zo rfl rfl (by first|exact trivial|(simp only[AllP];omega)) ?_)
        refine o_loadc (b := eb) (off := eo + j * 3 + 2) (v := I (evA E j).o) rfl (hej _ (Kp.refl _ _) 2 _ rfl) rfl rfl rfl rfl ?_
        (repeat refine zo rfl rfl trivial ?_)
        refine o_build (pairC ((evA E j).o, i, j)) rfl rfl rfl rfl rfl rfl rfl ?_
        refine o_yield (hY _ _ _ W3 hpost hJ3) rfl rfl rfl rfl ?_
        rintro b W4 (⟨rfl, hJ4⟩ | ⟨rfl, hJx⟩)
        · (repeat first|refine zg ?_|refine zo rfl rfl (by first|exact trivial|(simp only[AllP];omega)) ?_|refine zn ?_|refine zk ?_|refine zf rfl ?_)
          exact ⟨i + 1, rfl, ⟨by omega, by rw [hsu, ← List.append_assoc]; exact hJ4⟩, by omega⟩
        · (repeat first|refine zo rfl rfl trivial ?_|refine zn ?_|refine ze rfl ?_|refine zt rfl ?_)
          exact ⟨_, rfl, .inr ⟨_, post, by rw [hpost, List.append_cons], hJx⟩⟩
    · have hij : i = j := by omega
      subst hij
      (repeat first|refine zg ?_|refine zo rfl rfl (by first|exact trivial|(simp only[AllP];omega)) ?_|refine zn ?_|refine ze rfl ?_)
      exact ⟨i + 1, rfl, ⟨by omega, by rw [racesN_succ]; exact hJ2⟩, by omega⟩
  · have hjn : j = E.length := by omega
    subst hjn
    (repeat refine ze rfl ?_)
    exact ⟨_, rfl, .inl hJ⟩
/-- a sequence of pairs: a function value that tells them -/
structure Seq3 (w : World) (v : Value) (Fp : List Nat) (xs : List P3) : Prop where
  is : ∃ f lb, v = .func (.func f) #[] ⟨lb⟩ ∧ Iter Try.prog f lb Fp pairE xs w
theorem oAll_ret (h : OrAt w g E R) (hw : ∀ b, b ∈ g.F → b < w.heap.size) : Ret Try.prog 24 [ptr g.p] w (fun v w' => ∃ bx, Seq3 w' v (bx :: g.F) (racesN E R E.length) ∧ Kp [] w w' ∧ w.heap.size ≤ bx) := by
  refine enter Try.call24 Try.func24 rfl rfl rfl rfl ?_
  (repeat first|refine zA ?_|refine zg ?_)
  refine o_box rfl rfl rfl ?_
  intro bx w1 hbx hu1
  have hB1 : Blk w1 bx [ptr g.p] 26 := hu1.blk
  have k1 : Kp [] w w1 := hu1.kp [] (.inr (by omega))
  (repeat first|refine zA ?_|refine zg ?_|refine zo rfl rfl trivial ?_|refine zn ?_|refine zr ?_)
  exact ⟨_, rfl, bx, ⟨_, _, rfl, oall_iter (h.kp0 k1) (fun b hb => by have := hw b hb; have := k1.size; omega) hB1⟩, k1, by omega⟩
end
end Go.Vc
