/- order: All's iterator. -/
import Derived.Test.YtkgjibhbhddckaaDoorQClKeeps36
import Derived.Scope
namespace Go.Vc
open Go Go.Proofs
set_option maxRecDepth 10000
variable {w : World}
theorem r_scope {P : Program} {n : Nat} {c : Code} {K : EPost} {X : List (Nat × EPost)} {R : EPost} {e : Env} (h : Wp none P n c K X R e w) : Wp none P n (.scope c) K X R e w := by
  intro ds a ha
  have h1 := h ds a ha
  rw [FW_none, wpIn_wide] at h1 ⊢
  refine wp_scope_straight (wp_mono h1 ?_)
  intro x a w hq
  cases x with
  | goto l => exact hq
  | normal => exact hq
  | exit id => exact hq
  | ret => exact hq
  | panic c => exact hq
  | outgrown => exact hq
theorem r_label {P : Program} {n l : Nat} {K : EPost} {X : List (Nat × EPost)} {R : EPost} {e : Env} {ro : Option Nat} (h : K e w) : Wp ro P n (.label l) K X R e w := fun _ _ ha => wpIn_label ⟨e, ha, h⟩
abbrev P3 := Int × Nat × Nat
abbrev pairC (x : P3) : List Value := [I x.1, I x.2.1, I x.2.2]
abbrev pairE (x : P3) : List Value := [.agg ⟨pairC x⟩]
noncomputable def racesJ (E : List Ev) (R : List Int) (j i : Nat) : List P3 := (List.range i).filterMap fun i => if raceI E R i j = true then some ((evA E j).o, i, j) else none
noncomputable def racesN (E : List Ev) (R : List Int) (n : Nat) : List P3 := (List.range n).flatMap fun j => racesJ E R j j
theorem racesJ_succ (E : List Ev) (R : List Int) (j i : Nat) : racesJ E R j (i + 1) = racesJ E R j i ++ (if raceI E R i j = true then [((evA E j).o, i, j)] else []) := by
  unfold racesJ
  rw [List.range_succ, List.filterMap_append]
  congr 1
  simp only [List.filterMap_cons, List.filterMap_nil]
  split <;> rename_i h <;> (split at h <;> simp_all)
theorem racesN_succ (E : List Ev) (R : List Int) (n : Nat) : racesN E R (n + 1) = racesN E R n ++ racesJ E R n n := by
  unfold racesN
  rw [List.range_succ, List.flatMap_append]; simp
theorem racesJ_pre (E : List Ev) (R : List Int) (j : Nat) {i k : Nat} (h : i ≤ k) : ∃ t, racesJ E R j k = racesJ E R j i ++ t := by
  induction k with
  | zero => have : i = 0 := by omega
            subst this; exact ⟨[], by simp⟩
  | succ k ih =>
    by_cases q : i = k + 1
    · subst q; exact ⟨[], by simp⟩
    · obtain ⟨t, ht⟩ := ih (by omega)
      exact ⟨t ++ (if raceI E R k j = true then [((evA E j).o, k, j)] else []), by rw [racesJ_succ, ht, List.append_assoc]⟩
theorem racesN_pre (E : List Ev) (R : List Int) {i k : Nat} (h : i ≤ k) : ∃ t, racesN E R k = racesN E R i ++ t := by
  induction k with
  | zero => have : i = 0 := by omega
            subst this; exact ⟨[], by simp⟩
  | succ k ih =>
    by_cases q : i = k + 1
    · subst q; exact ⟨[], by simp⟩
    · obtain ⟨t, ht⟩ := ih (by omega)
      exact ⟨t ++ racesJ E R k k, by rw [racesN_succ, ht, List.append_assoc]⟩
section
variable {g : OrG} {E : List Ev} {R : List Int}
theorem races_split {j i n : Nat} (hj : j < n) (hi : i < j) (hr : raceI E R i j = true) : ∃ post, racesN E R n = (racesN E R j ++ racesJ E R j i) ++ ((evA E j).o, i, j) :: post := by
  obtain ⟨t, ht⟩ := racesN_pre E R (show j + 1 ≤ n by omega)
  obtain ⟨u, hu⟩ := racesJ_pre E R j (show i + 1 ≤ j by omega)
  rw [racesN_succ, hu, racesJ_succ, if_pos hr] at ht
  exact ⟨u ++ t, by rw [ht]; simp⟩
theorem ReadS.heap {W : World} {ad : Option Addr} {xs : List Value} (h : ReadS w ad xs) (hp : ∀ b, b ∈ blkOf ad → W.heap[b]? = w.heap[b]?) : ReadS W ad xs := by
  cases ad with
  | none => exact h
  | some ad =>
    intro i v hv
    obtain ⟨b, off, he, hb, hc⟩ := h.at_ (by have := (List.getElem?_eq_some_iff.1 hv).1; omega)
    simp only [Option.some.injEq] at he
    subst he
    rw [addr_lit, ← hc i v hv]
    exact World.cell?_of_block (hp _ (by simp [blkOf]))
theorem OrAt.heap {W : World} (h : OrAt w g E R) (hp : ∀ b, b ∈ g.F → W.heap[b]? = w.heap[b]?) : OrAt W g E R := by
  have hb : ∀ {b : Nat} {l : List Value} {T : TypeId}, b ∈ g.F → Blk w b l T → Blk W b l T := fun hm hB => by unfold Blk; rw [hp _ hm]; exact hB
  have m1 : g.p ∈ g.F := by simp [OrG.F]
  have m2 : ∀ b, b ∈ blkOf g.ead → b ∈ g.F := fun b hb => by simp [OrG.F, hb]
  have m3 : ∀ b, b ∈ blkOf g.rad → b ∈ g.F := fun b hb => by simp [OrG.F, hb]
  have m4 : ∀ b, b ∈ relBlks g.rp g.mad g.bs → b ∈ g.F := fun b hb => by simp [OrG.F, hb]
  refine ⟨⟨hb m1 h.hdr, h.ev.heap (fun b hb => hp b (m2 b hb)), h.ro.heap (fun b hb => hp b (m3 b hb)), h.lr, h.small⟩, ?_, h.bits, fun b hb => ?_⟩
  rotate_left
  · have q := hp b hb
    rw [Array.getElem?_eq_getElem (h.fl b hb)] at q
    exact (Array.getElem?_eq_some_iff.1 q).1
  exact ⟨hb (m4 _ (by simp [relBlks])) h.rel.hdr, h.rel.own.keep (fun b hb => hp b (m4 _ (by simp [relBlks, hb]))), h.rel.nb, h.rel.nM, h.rel.small, fun i b ws h1 h2 => ⟨hb (m4 _ (by simp [relBlks, List.mem_of_getElem? h1])) (h.rel.row i b ws h1 h2).1, (h.rel.row i b ws h1 h2).2⟩, h.rel.nodup⟩
set_option maxHeartbeats 6400000 in
theorem oall_iter (h : OrAt w g E R) (hw : ∀ b, b ∈ g.F → b < w.heap.size) {bx : Nat} (hbx : Blk w bx [ptr g.p] 74) : Iter Tryd.prog 87 [ptr bx] (bx :: g.F) pairE (racesN E R E.length) w := by
  have hsm := h.small
  refine ⟨?_, ?_⟩
  · intro b hb
    rcases List.mem_cons.1 hb with rfl | hb
    · exact hbx.lt
    · exact hw b hb
  intro l w1 J Jx hsz hpriv hstab hJ0 hY hstabx
  have facts : ∀ pre W, J pre W → OrAt W g E R ∧ Blk W bx [ptr g.p] 74 := fun pre W hJ => by
    have hp := hpriv pre W hJ
    exact ⟨h.heap (fun b hb => hp b (by simp [hb])), by unfold Blk; rw [hp bx (by simp)]; exact hbx⟩
  obtain ⟨h1, hb1⟩ := facts _ _ hJ0
  refine enter Tryd.call87 Tryd.func87 rfl rfl rfl rfl ?_
  refine r_scope ?_
  refine r_seq (r_label ?_)
  (repeat first|refine zA ?_|refine zg ?_)
  refine o_load rfl hb1 rfl rfl rfl rfl rfl ?_
  refine o_call (oLen_ret h1.toOrB) rfl rfl rfl ?_
  rintro v w2 ⟨rfl, rfl⟩
  (repeat first|refine zo rfl rfl trivial ?_|refine zn ?_|refine zb ?_)
  refine r_loop (α := Nat) [0, 1, 6, 7] (fun j => [yv l, ptr bx, I E.length, I j]) (fun j W => j ≤ E.length ∧ J (racesN E R j) W) (fun j => E.length - j) 0 rfl ⟨by omega, hJ0⟩ ?_
  rintro j e W ⟨hj, hJ⟩
  (repeat first|refine zA ?_|refine zD ?_|refine zg ?_|refine zo rfl rfl trivial ?_|refine zn ?_)
  refine r_if rfl (fun hc => ?_) (fun hc => ?_)
  · have hjn : j < E.length := by omega
    (repeat first|refine zA ?_|refine zC ?_|refine zg ?_|refine zo rfl rfl trivial ?_|refine zn ?_|refine zb ?_|refine zk ?_)
    refine r_loop (α := Nat) [0, 1, 3, 6, 7, 10, 11] (fun i => [yv l, ptr bx, I j, I E.length, I j, I j, I i]) (fun i W => i ≤ j ∧ J (racesN E R j ++ racesJ E R j i) W) (fun i => j - i) 0 rfl ⟨by omega, by rw [show racesJ E R j 0 = [] from rfl, List.append_nil]; exact hJ⟩ ?_
    rintro i e W2 ⟨hi, hJ2⟩
    obtain ⟨h2, hb2⟩ := facts _ _ hJ2
    (repeat first|refine zA ?_|refine zD ?_|refine zg ?_|refine zo rfl rfl trivial ?_|refine zn ?_)
    refine r_if rfl (fun hc2 => ?_) (fun hc2 => ?_)
    · have hij : i < j := by omega
      (repeat first|refine zA ?_|refine zC ?_|refine zg ?_|refine zo rfl rfl trivial ?_|refine zn ?_|refine zb ?_|refine zk ?_)
      refine o_load rfl hb2 rfl rfl rfl rfl rfl ?_
      (repeat refine zo rfl rfl trivial ?_)
      refine o_call (orace_ret h2 (i := i) (j := j) (by omega) hjn) rfl rfl rfl ?_
      rintro v W3 ⟨rfl, k3⟩
      have hJ3 := hstab _ _ _ hJ2 k3
      obtain ⟨h3, hb3⟩ := facts _ _ hJ3
      have hsu := racesJ_succ E R j i
      cases hr : raceI E R i j with
      | false =>
        rw [hr, if_neg (by simp), List.append_nil] at hsu
        (repeat first|refine zg ?_|refine zo rfl rfl (by first|exact trivial|(simp only[AllP];omega)) ?_|refine zn ?_|refine zk ?_|refine zU rfl rfl rfl ?_|refine zf rfl ?_)
        exact ⟨i + 1, rfl, ⟨by omega, by rw [hsu]; exact hJ3⟩, by omega⟩
      | true =>
        rw [hr, if_pos rfl] at hsu
        obtain ⟨post, hpost⟩ := races_split hjn hij hr
        obtain ⟨eb, eo, hea, hej⟩ := h3.toOrB.evat (i := j) (by omega) (by omega)
        rw [Int.toNat_natCast] at hej
        have hh := h3.hdr
        rw [hea] at hh
        (repeat first|refine zo rfl rfl trivial ?_|refine zT rfl rfl rfl ?_)
        refine o_load rfl hb3 rfl rfl rfl rfl rfl ?_
        (repeat refine zo rfl rfl trivial ?_)
        refine o_load (v := .slice (some ⟨eb, eo, none⟩) E.length g.ecap) rfl hh rfl rfl rfl rfl rfl ?_
        (repeat refine zo rfl rfl (by first|exact trivial|(simp only[AllP];omega)) ?_)
        refine o_loadc (b := eb) (off := eo + j * 3 + 2) (v := I (evA E j).o) rfl (hej _ (Kp.refl _ _) 2 _ rfl) rfl rfl rfl rfl ?_
        (repeat refine zo rfl rfl trivial ?_)
        refine o_build (pairC ((evA E j).o, i, j)) rfl rfl rfl rfl rfl rfl rfl ?_
        refine o_yield (hY _ _ _ W3 hpost hJ3) rfl rfl rfl rfl ?_
        rintro b W4 (⟨rfl, hJ4⟩ | ⟨rfl, hJx⟩)
        · (repeat first|refine zg ?_|refine zo rfl rfl (by first|exact trivial|(simp only[AllP];omega)) ?_|refine zn ?_|refine zk ?_|refine zf rfl ?_)
          exact ⟨i + 1, rfl, ⟨by omega, by rw [hsu, ← List.append_assoc]; exact hJ4⟩, by omega⟩
        · (repeat first|refine zo rfl rfl trivial ?_|refine zn ?_|refine ze rfl ?_|refine zt rfl ?_)
          exact ⟨_, rfl, .inr ⟨_, post, by rw [hpost, List.append_cons], hJx⟩⟩
    · have hij : i = j := by omega
      subst hij
      (repeat first|refine zg ?_|refine zo rfl rfl (by first|exact trivial|(simp only[AllP];omega)) ?_|refine zn ?_|refine ze rfl ?_)
      exact ⟨i + 1, rfl, ⟨by omega, by rw [racesN_succ]; exact hJ2⟩, by omega⟩
  · have hjn : j = E.length := by omega
    subst hjn
    (repeat refine ze rfl ?_)
    exact ⟨_, rfl, .inl hJ⟩
/-- a sequence of pairs: a function value that tells them -/
structure Seq3 (w : World) (v : Value) (Fp : List Nat) (xs : List P3) : Prop where
  is : ∃ f lb, v = .func (.func f) #[] ⟨lb⟩ ∧ Iter Tryd.prog f lb Fp pairE xs w
theorem oAll_ret (h : OrAt w g E R) (hw : ∀ b, b ∈ g.F → b < w.heap.size) : Ret Tryd.prog 60 [ptr g.p] w (fun v w' => ∃ bx, Seq3 w' v (bx :: g.F) (racesN E R E.length) ∧ Kp [] w w' ∧ w.heap.size ≤ bx) := by
  refine enter Tryd.call60 Tryd.func60 rfl rfl rfl rfl ?_
  (repeat first|refine zA ?_|refine zg ?_)
  refine o_box rfl rfl rfl ?_
  intro bx w1 hbx hu1
  have hB1 : Blk w1 bx [ptr g.p] 74 := hu1.blk
  have k1 : Kp [] w w1 := hu1.kp [] (.inr (by omega))
  (repeat first|refine zA ?_|refine zg ?_|refine zo rfl rfl trivial ?_|refine zn ?_|refine zr ?_)
  exact ⟨_, rfl, bx, ⟨_, _, rfl, oall_iter (h.kp0 k1) (fun b hb => by have := hw b hb; have := k1.size; omega) hB1⟩, k1, by omega⟩
end
end Go.Vc
/- order: an order that is not there; orders there or not, in one form. -/
namespace Go.Vc
open Go Go.Proofs
set_option maxRecDepth 10000
variable {w : World}
/-- no order, or one of nothing -/
def AbsO (w : World) (p : Option Addr) : Prop := p = none ∨ ∃ b, p = some ⟨b, 0, none⟩ ∧ Blk w b [.slice none 0 0, .slice none 0 0, .pointer none] 116
theorem AbsO.kp0 {w' : World} {p : Option Addr} (h : AbsO w p) (hk : Kp [] w w') : AbsO w' p := by
  rcases h with h | ⟨b, h1, h2⟩
  · exact .inl h
  · exact .inr ⟨b, h1, hk.blk (by simp) h2⟩
theorem AbsO.heap {W : World} {p : Option Addr} (h : AbsO w p) (hp : ∀ b, b ∈ blkOf p → W.heap[b]? = w.heap[b]?) : AbsO W p := by
  rcases h with h | ⟨b, h1, h2⟩
  · exact .inl h
  · exact .inr ⟨b, h1, by unfold Blk; rw [hp b (by rw [h1]; simp [blkOf])]; exact h2⟩
section
variable {p : Option Addr}
theorem aLen_ret (h : AbsO w p) : Ret Tryd.prog 88 [.pointer p] w (fun v w' => v = I 0 ∧ w' = w) := by
  rcases h with rfl | ⟨b, rfl, hB⟩
  · exact oLen_nil
  refine enter Tryd.call88 Tryd.func88 rfl rfl rfl rfl ?_
  (repeat first|refine zA ?_|refine zB ?_|refine zg ?_|refine zo rfl rfl trivial ?_|refine zn ?_|refine zk ?_|refine zf rfl ?_)
  refine o_load (v := .slice none 0 0) rfl hB rfl rfl rfl rfl rfl ?_
  (repeat first|refine zo rfl rfl trivial ?_|refine zn ?_|refine zr ?_)
  exact ⟨_, rfl, rfl, rfl⟩
theorem AbsO.lt (h : AbsO w p) : ∀ b, b ∈ blkOf p → b < w.heap.size := fun b hb => by
  rcases h with rfl | ⟨b', rfl, hB⟩
  · simp [blkOf] at hb
  · simp [blkOf] at hb; subst hb; exact hB.lt
theorem aall_iter (h : AbsO w p) {bx : Nat} (hbx : Blk w bx [.pointer p] 74) : Iter Tryd.prog 87 [ptr bx] (bx :: blkOf p) pairE [] w := by
  refine ⟨?_, ?_⟩
  · intro b hb
    rcases List.mem_cons.1 hb with rfl | hb
    · exact hbx.lt
    · exact h.lt b hb
  intro l w1 J Jx hsz hpriv hstab hJ0 hY hstabx
  have hp := hpriv _ _ hJ0
  have h1 : AbsO w1 p := h.heap (fun b hb => hp b (by simp [hb]))
  have hb1 : Blk w1 bx [.pointer p] 74 := by unfold Blk; rw [hp bx (by simp)]; exact hbx
  refine enter Tryd.call87 Tryd.func87 rfl rfl rfl rfl ?_
  refine r_scope ?_
  refine r_seq (r_label ?_)
  (repeat first|refine zA ?_|refine zg ?_)
  refine o_load rfl hb1 rfl rfl rfl rfl rfl ?_
  refine o_call (aLen_ret h1) rfl rfl rfl ?_
  rintro v w2 ⟨rfl, rfl⟩
  (repeat first|refine zo rfl rfl trivial ?_|refine zn ?_|refine zb ?_)
  refine r_loop (α := Unit) [0, 1, 6, 7] (fun _ => [yv l, ptr bx, I 0, I 0]) (fun _ W => J [] W) (fun _ => 0) () rfl hJ0 ?_
  rintro _ e W hJ
  (repeat first|refine zA ?_|refine zD ?_|refine zg ?_|refine zo rfl rfl trivial ?_|refine zn ?_|refine ze rfl ?_|refine zf rfl ?_)
  exact ⟨_, rfl, .inl hJ⟩
theorem aAll_ret (h : AbsO w p) : Ret Tryd.prog 60 [.pointer p] w (fun v w' => ∃ bx, Seq3 w' v (bx :: blkOf p) [] ∧ Kp [] w w' ∧ w.heap.size ≤ bx) := by
  refine enter Tryd.call60 Tryd.func60 rfl rfl rfl rfl ?_
  (repeat first|refine zA ?_|refine zg ?_)
  refine o_box rfl rfl rfl ?_
  intro bx w1 hbx hu1
  have hB1 : Blk w1 bx [.pointer p] 74 := hu1.blk
  have k1 : Kp [] w w1 := hu1.kp [] (.inr (by omega))
  (repeat first|refine zA ?_|refine zg ?_|refine zo rfl rfl trivial ?_|refine zn ?_|refine zr ?_)
  exact ⟨_, rfl, bx, ⟨_, _, rfl, aall_iter (h.kp0 k1) hB1⟩, k1, by omega⟩
end
/-- an order, there (F its blocks) or not -/
def OX (w : World) (p : Option Addr) (F : List Nat) (E : List Ev) (R : List Int) : Prop := (AbsO w p ∧ F = blkOf p ∧ E = [] ∧ R = []) ∨ ∃ g, p = some ⟨g.p, 0, none⟩ ∧ F = g.F ∧ OrAt w g E R
section
variable {p : Option Addr} {F : List Nat} {E : List Ev} {R : List Int}
theorem OX.kp0 {w' : World} (h : OX w p F E R) (hk : Kp [] w w') : OX w' p F E R := by
  rcases h with ⟨h1, h2⟩ | ⟨g, h1, h2, h3⟩
  · exact .inl ⟨h1.kp0 hk, h2⟩
  · exact .inr ⟨g, h1, h2, h3.kp0 hk⟩
theorem OX.lt (h : OX w p F E R) : ∀ b, b ∈ F → b < w.heap.size := by
  rcases h with ⟨h1, rfl, _⟩ | ⟨g, h1, rfl, h3⟩
  · exact h1.lt
  · exact h3.fl
theorem OX.small (h : OX w p F E R) : E.length ≤ 2048 := by
  rcases h with ⟨_, _, rfl, _⟩ | ⟨g, _, _, h3⟩
  · simp
  · exact h3.small
theorem xAll_ret (h : OX w p F E R) : Ret Tryd.prog 60 [.pointer p] w (fun v w' => ∃ bx, Seq3 w' v (bx :: F) (racesN E R E.length) ∧ Kp [] w w' ∧ w.heap.size ≤ bx) := by
  rcases h with ⟨h1, rfl, rfl, rfl⟩ | ⟨g, rfl, rfl, h3⟩
  · exact aAll_ret h1
  · exact oAll_ret h3 h3.fl
end
end Go.Vc
