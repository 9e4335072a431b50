/- Parts of a proof. -/
import Derived.Test.YtkgngbpkiklckaaGreatDoorQClQExact33
set_option maxHeartbeats 12800000
namespace Go.Vc
open Go Go.Proofs
set_option maxRecDepth 20000
section
variable {w : World}
theorem kid_size {l : List QN} {at_ : Nat} {t : QT} (hS : SubT l at_ t) {i : Nat} {a : QT} (ha : t.subs[i]? = some a) : 0 < i → ∃ x, l[at_ + 1]? = some x ∧ x.size = ((t.subs.head?.map QT.size).getD 0 : Nat) := by
 intro hi
 obtain ⟨b, hb⟩ : ∃ b, t.subs[0]? = some b := ⟨_, List.getElem?_eq_getElem (by have := (List.getElem?_eq_some_iff.1 ha).1; omega)⟩
 have h1 := (hS.kid hb).head
 refine ⟨b.hd, ?_, ?_⟩
 ·have : Jl5 at_ t 0 = at_ + 1 := by simp [Jl5]
  rw [← this]; exact h1
 ·rw [b.hd_size, List.head?_eq_getElem?, hb]; rfl
theorem Qd2 {l : List QN} {ad : Option Addr} {cap at_ : Nat} {t : QT} (hR : Rows w ad cap l) (hS : SubT l at_ t) {i : Nat} {a : QT} (ha : t.subs[i]? = some a) (hk : t.subs.length ≤ 2) :
  Ret Tryz.prog 112 [qV ad l.length cap, I at_, I i] w (fun v w' => v = I (Jl5 at_ t i) ∧ Kp [] w w') := by
 have hle := hS.len
 have hcl := hR.len
 have hi := (List.getElem?_eq_some_iff.1 ha).1
 refine kid30_ret hR oM oM (kid_size hS ha) ?_
 cases hh : t.subs.head? with
 | none => simp
 | some b =>
  have := QT.subs_size (t := t) (a := b) (List.mem_of_mem_head? hh)
  show b.size ≤ _
  omega
theorem Qe5 : ∀ (n : Nat) (t : QT) {w : World} {l : List QN} {ad nad : Option Addr} {cap at_ ncap : Nat} {names : List (List UInt8)}, t.size ≤ n → Jd2 t → Rows w ad cap l → SubT l at_ t → Ja7 w nad (names.map S) → names.length + t.depth ≤ 1048576 →
  Ret Tryz.prog 66 [qV ad l.length cap, I at_, .slice nad names.length ncap] w (fun v w' => v = .bool (Jd9 t names) ∧ Kp [] w w')
 | 0, t, w, l, ad, nad, cap, at_, ncap, names, hs, _, _, _, _, _ => absurd hs (by have := t.size_pos; omega)
 | n + 1, t, w, l, ad, nad, cap, at_, ncap, names, hs, hg, hR, hS, hN, hd => by
  have hm := hR.max_
  have hcl := hR.len
  have hop := Jm3 hg
  have hx := hS.head
  have hle := hS.len
  have hsp := t.size_pos
  have hkl := Jk7 t.op.toNat
  obtain ⟨b, off, rfl, hbl, hcell⟩ := hR.cellN hx
  have hxW : ∀ {W : World}, Kp [] w W → ∀ j v, (qC t.hd)[j]? = some v → W.cell? ⟨b, off + at_ * 4 + j, none⟩ = some v := fun hk j v hv => by
   rw [← hcell j v hv]; exact World.cell?_of_block (hk.at_ b hbl sI)
  rw [named_kids hg]
  refine Ze Tryz.call66 Tryz.func66 ?_
  refine zS ?_
  refine Zx ?_
  intro b3 w1 e3 hu1
  have k1 : Kp [] w w1 := hu1.new oM
  have g3 : Blk w1 b3 [.slice (some ⟨b, off, none⟩) l.length cap] 24 := hu1.blk
  clear hu1
  refine zL g3 ?_
  refine Zm (vs := qC t.hd) rfl (fun j v hv => by rw [Ja2]; exact hxW k1 j v hv) ?_
  refine Za ?_
  intro b7 w2 e7 hu2
  refine Zs (b := b7) (cs := qC t.hd) rfl hu2.blk lR rfl (by simp [Value.oneCell', qC]) ?_
  intro w3 hu3
  have k13 : Kp [] w1 w3 := (hu2.new oM).since (hu3.kp [b7] (.inl sI)) (by simp; omega)
  have g7 : Blk w3 b7 (qC t.hd) 81 := hu3.blk
  have g3 := k13.b0 g3
  have k0 := k1.trans k13
  clear hu2 hu3 k1 k13
  have hhd := t.hd_op
  refine zL g7 ?_
  refine r_if rfl (fun h2 => ?_) (fun h2 => ?_)
  ·rw [if_pos oM]
   refine zS ?_
   refine Jb4 (α := Nat) [2, 7, 8] (fun i => [.slice nad names.length ncap, ptr b7, I i]) (fun i W => i ≤ names.length ∧ Kp [] w3 W ∧ ∀ s ∈ names.take i, s ≠ t.hd.name) (fun i => names.length - i) 0 rfl ⟨Nat.zero_le _, Kp.refl _ _, sI⟩ ?_
   rintro i e W ⟨hi, kW, hno⟩
   have g7 := kW.b0 g7
   have k0 := k0.trans kW
   refine zS ?_
   refine r_if rfl (fun hc => ?_) (fun hc => ?_)
   ·have hi2 : i < names.length := oM
    obtain ⟨s, hs⟩ : ∃ s, names[i]? = some s := ⟨_, List.getElem?_eq_getElem hi2⟩
    obtain ⟨nb, noff, rfl, hnl, hnc⟩ := (hN.kp k0 sI).at_ (by simp; omega)
    have hns := hnc i (S s) (by rw [List.getElem?_map, hs]; rfl)
    refine zS ?_
    refine Ja9 ?_
    refine Jc9 Ja0 kR ?_
    refine zQ ?_
    refine q_load (v := S s) rfl (fun w' h' => by
     rw [Ja2, ← hns]
     exact World.cell?_of_block (h'.at_ nb hnl sI)) rfl rfl rfl rfl ?_
    refine zN g7 ?_
    intro w' hs'
    refine r_if rfl (fun he => ?_) (fun he => ?_)
    ·have hmem : names.contains t.hd.name = true := List.contains_iff_mem.2 (by rw [← show s = t.hd.name from he]; exact List.mem_of_getElem? hs)
     rw [hmem]
     refine zS ?_
     exact ⟨_, rfl, rfl, k0.trans hs'⟩
    ·refine zS ?_
     refine ⟨i + 1, rfl, ⟨oM, kW.trans hs', fun y hy => ?_⟩, oM⟩
     rw [List.take_add_one, hs] at hy
     rcases List.mem_append.1 hy with hy | hy
     ·exact hno y hy
     ·rw [show y = s by simpa using hy]; exact he
   ·obtain rfl : i = names.length := oM
    rw [List.take_length] at hno
    have hmem : names.contains t.hd.name = false := by
     rw [Bool.eq_false_iff]; intro h; exact hno _ (List.contains_iff_mem.1 h) rfl
    rw [hmem]
    refine zS ?_
    exact ⟨_, rfl, rfl, k0⟩
  rw [if_neg oM]
  refine zL g7 ?_
  refine Zc (Jl0 t.hd.op) ?_
  rintro v w4 ⟨rfl, k4⟩
  have g7 := k4.b0 g7
  have g3 := k4.b0 g3
  have k0 := k0.trans k4
  rw [hhd]
  refine zS ?_
  refine Za ?_
  intro b9 w5 e9 hu5
  refine Zs (b := b9) (cs := rtC (rtO t.op)) rfl hu5.blk lR rfl (by simp [Value.oneCell', rtC]) ?_
  intro w6 hu6
  have k46 : Kp [] w4 w6 := (hu5.new oM).since (hu6.kp [b9] (.inl sI)) (by simp; omega)
  have g9 : Blk w6 b9 [S (rtO t.op).word, I (t.subs.length : Nat), I (rtO t.op).of_, I (rtO t.op).ans, .bool (Jb6 t.op.toNat)] 154 := by
   rw [hop.2.2.1, ← (Jr5 hop.1 hop.2.1).1, ← (Jr5 hop.1 hop.2.1).2.2.2.1]; exact hu6.blk
  have g7 := k46.b0 g7
  have g3 := k46.b0 g3
  have k0 := k0.trans k46
  clear hu5 hu6 k46
  refine zS ?_
  refine Jf0 rfl rfl rfl rfl ?_
  intro b40 w7 e40 hu7
  have k67 : Kp [] w6 w7 := hu7.new oM
  have ho7 : OwnS w7 9 1 (some ⟨b40, 0, none⟩) 0 0 [] := ⟨rfl, rfl, rfl, lR, by simp [maxLen], [], hu7.blk, rfl⟩
  have n40 : w6.heap.size ≤ b40 := oM
  clear hu7
  refine Zr ?_
  refine Jg7 (k := 0) (names.map S) rfl rfl ho7 (hN.kp (k0.trans k67) sI) rfl rfl rfl dE sI (by intro v hv; obtain ⟨s, _, rfl⟩ := List.mem_map.1 hv; rfl) (by simp only [maxLen]; omega) oM rfl rfl ?_
  intro ad11 cap11 w8 ho8 k8 hn8
  rw [Nat.zero_add] at ho8 ⊢
  rw [List.nil_append] at ho8
  have k68 : Kp [] w6 w8 := k67.since k8 (by simpa [Ja1] using n40)
  have hn11 : ∀ c, c ∈ Ja1 ad11 → w6.heap.size ≤ c := fun c hc => by
   have := k67.size
   rcases hn8 c hc with h | h
   ·simp [Ja1] at h; omega
   ·omega
  have m9 := k68.b0 g9
  have m7 := k68.b0 g7
  have y68 := k68.size
  repeat first | refine o_pure1 rfl rfl rfl ?_ | refine zn ?_
  refine Ja9 ?_
  refine Jd8 (α := Option Addr × Nat) [1, 3, 7, 9, 11] (fun y => [I at_, ptr b3, ptr b7, ptr b9, .slice y.1 (if Jb6 t.op.toNat then names ++ [t.hd.name] else names).length y.2]) (fun y W => OwnS W 9 1 y.1 (if Jb6 t.op.toNat then names ++ [t.hd.name] else names).length y.2 ((if Jb6 t.op.toNat then names ++ [t.hd.name] else names).map S) ∧ Kp [] w6 W) ?_ ?_
  ·cases hbi : Jb6 t.op.toNat with
   | true =>
    rw [hbi] at m9
    rw [if_pos rfl]
    refine zL m9 ?_
    refine Zl rfl m7 (v := S t.hd.name) ?_
    refine Zn [S t.hd.name] rfl rfl rfl kR ?_
    intro bn w9 hbn hu9
    have k9 : Kp [] w8 w9 := hu9.new oM
    refine Jh3 rfl rfl (ho8.kp k9 sI) hu9.blk rfl rfl rfl rfl (by simp only [maxLen]; omega) oM rfl rfl ?_
    intro ad12 cap12 w10 ho10 k10 hn10
    refine zS ?_
    exact ⟨(ad12, cap12), by rw [List.length_append]; rfl, by rw [List.length_append, List.map_append]; exact ho10, (k68.trans k9).since k10 hn11⟩
   | false =>
    rw [hbi] at m9
    rw [if_neg sI]
    refine zL m9 ?_
    exact ⟨(ad11, cap11), rfl, ho8, k68⟩
  rintro ⟨ad12, cap12⟩ e W ⟨ho, k6W⟩
  dsimp only at ho ⊢
  have g9 := k6W.b0 g9
  have g3 := k6W.b0 g3
  have k0 := k0.trans k6W
  clear m9 m7 ho8 hn11 n40 k68 k6W g7 hxW y68
  have hnl : (if Jb6 t.op.toNat then names ++ [t.hd.name] else names).length ≤ names.length + 1 := by
   split
   ·rw [List.length_append]; exact lR
   ·omega
  generalize (if Jb6 t.op.toNat then names ++ [t.hd.name] else names) = nm at ho hnl ⊢
  refine zS ?_
  refine Jb4 (α := Nat) [1, 3, 9, 11, 12] (fun i => [I at_, ptr b3, ptr b9, .slice ad12 nm.length cap12, I i]) (fun i W' => i ≤ t.subs.length ∧ Kp [] W W' ∧ (t.subs.take i).all (fun a => Jd9 a nm) = true) (fun i => t.subs.length - i) 0 rfl ⟨Nat.zero_le _, Kp.refl _ _, rfl⟩ ?_
  rintro i e W' ⟨hi, kW, hall⟩
  have g9 := kW.b0 g9
  have g3 := kW.b0 g3
  have k0 := k0.trans kW
  refine zL g9 ?_
  refine r_if rfl (fun hc => ?_) (fun hc => ?_)
  ·obtain ⟨a, ha⟩ : ∃ a, t.subs[i]? = some a := ⟨_, List.getElem?_eq_getElem oM⟩
   have ham := List.mem_of_getElem? ha
   have hsz := QT.subs_size ham
   have hdp := QT.subs_depth ham
   refine zS ?_
   refine Ja9 ?_
   refine Jc9 Ja0 kR ?_
   refine Zw (vs := [.slice (some ⟨b, off, none⟩) l.length cap]) rfl (fun w' h' j v hv => by rw [Nat.zero_add]; exact (h'.b0 g3).cell hv) ?_
   refine Zw (vs := [.slice (some ⟨b, off, none⟩) l.length cap]) rfl (fun w' h' j v hv => by rw [Nat.zero_add]; exact (h'.b0 g3).cell hv) ?_
   refine zQ ?_
   refine Zk (I (Jl5 at_ t i)) (fun w1 hk => (Qd2 (hR.kp (k0.trans hk) sI) hS ha oM).mono fun v w' h => ⟨h.1, hk.trans h.2⟩) Tryz.call112 ?_
   refine zQ ?_
   refine Zk (.bool (Jd9 a nm)) (fun w1 hk => (Qe5 n a oM (Je7 hg ham) (hR.kp (k0.trans hk) sI) (hS.kid ha) (ho.read.kp (kW.trans hk) sI) oM).mono fun v w' h => ⟨h.1, hk.trans h.2⟩) Tryz.call66 ?_
   refine zQ ?_
   intro w' hs'
   have ht1 : t.subs.take (i + 1) = t.subs.take i ++ [a] := by rw [List.take_add_one, ha]; rfl
   cases hb : Jd9 a nm with
   | true =>
    refine zS ?_
    exact ⟨i + 1, rfl, ⟨oM, kW.trans hs', by rw [ht1, List.all_append, hall]; simp [hb]⟩, oM⟩
   | false =>
    have hno : (t.subs.all fun a => Jd9 a nm) = false := by
     rw [Bool.eq_false_iff]; intro h; rw [List.all_eq_true.1 h a ham] at hb; cases hb
    rw [hno]
    refine zS ?_
    exact ⟨_, rfl, rfl, k0.trans hs'⟩
  ·obtain rfl : i = t.subs.length := oM
   rw [List.take_length] at hall
   rw [hall]
   refine zS ?_
   exact ⟨_, rfl, rfl, k0⟩
theorem Qg8 : ∀ (n : Nat) (t : QT) {w : World} {l : List QN} {ad : Option Addr} {cap at_ : Nat}, t.size ≤ n → Jd2 t → Rows w ad cap l → SubT l at_ t →
  Ret Tryz.prog 67 [qV ad l.length cap, I at_] w (fun v w' => v = .bool (Jd7 t) ∧ Kp [] w w')
 | 0, t, w, l, ad, cap, at_, hs, _, _, _ => absurd hs (by have := t.size_pos; omega)
 | n + 1, t, w, l, ad, cap, at_, hs, hg, hR, hS => by
  have hm := hR.max_
  have hcl := hR.len
  have hop := Jm3 hg
  have hx := hS.head
  have hle := hS.len
  have hsp := t.size_pos
  have hkl := Jk7 t.op.toNat
  have hhd := t.hd_op
  obtain ⟨b, off, rfl, hbl, hcell⟩ := hR.cellN hx
  have hxW : ∀ {W : World}, Kp [] w W → ∀ j v, (qC t.hd)[j]? = some v → W.cell? ⟨b, off + at_ * 4 + j, none⟩ = some v := fun hk j v hv => by
   rw [← hcell j v hv]; exact World.cell?_of_block (hk.at_ b hbl sI)
  rw [Qn3]
  refine Ze Tryz.call67 Tryz.func67 ?_
  refine zS ?_
  refine Zx ?_
  intro b3 w1 e3 hu1
  have k1 : Kp [] w w1 := hu1.new oM
  have g3 : Blk w1 b3 [.slice (some ⟨b, off, none⟩) l.length cap] 24 := hu1.blk
  clear hu1
  refine zL g3 ?_
  refine Zo (v := I t.op) rfl (by rw [Ja2, ← hhd]; exact hxW k1 0 _ rfl) ?_
  refine Zc (Jl0 t.op) ?_
  rintro v w4 ⟨rfl, k4⟩
  have g3 := k4.b0 g3
  have k0 := k1.trans k4
  refine zS ?_
  refine Za ?_
  intro b5 w5 e5 hu5
  refine Zs (b := b5) (cs := rtC (rtO t.op)) rfl hu5.blk lR rfl (by simp [Value.oneCell', rtC]) ?_
  intro w6 hu6
  have k46 : Kp [] w4 w6 := (hu5.new oM).since (hu6.kp [b5] (.inl sI)) (by simp; omega)
  have g5 : Blk w6 b5 [S (rtO t.op).word, I (t.subs.length : Nat), I (ofO t.op.toNat), I (rtO t.op).ans, .bool (rtO t.op).binds] 154 := by
   rw [hop.2.2.1, ← (Jr5 hop.1 hop.2.1).1, ← (Jr5 hop.1 hop.2.1).2.1]; exact hu6.blk
  have g3 := k46.b0 g3
  have k0 := k0.trans k46
  clear hu5 hu6 k46
  refine zS ?_
  refine Jb4 (α := Nat) [1, 2, 5, 7] (fun i => [I at_, ptr b3, ptr b5, I i]) (fun i W' => i ≤ t.subs.length ∧ Kp [] w6 W' ∧ (t.subs.take i).all (fun a => decide (Jb2 a.op.toNat = ofO t.op.toNat) && Jd7 a) = true) (fun i => t.subs.length - i) 0 rfl ⟨Nat.zero_le _, Kp.refl _ _, rfl⟩ ?_
  rintro i e W ⟨hi, kW, hall⟩
  have g5 := kW.b0 g5
  have g3 := kW.b0 g3
  have k0 := k0.trans kW
  refine zL g5 ?_
  refine r_if rfl (fun hc => ?_) (fun hc => ?_)
  ·obtain ⟨a, ha⟩ : ∃ a, t.subs[i]? = some a := ⟨_, List.getElem?_eq_getElem oM⟩
   have ham := List.mem_of_getElem? ha
   have hsz := QT.subs_size ham
   have hga := Je7 hg ham
   have hoa := Jm3 hga
   have hSa := hS.kid ha
   have hla := hSa.len
   have hsa := a.size_pos
   have ht1 : t.subs.take (i + 1) = t.subs.take i ++ [a] := by rw [List.take_add_one, ha]; rfl
   have hno : (decide (Jb2 a.op.toNat = ofO t.op.toNat) && Jd7 a) = false → (t.subs.all fun a => decide (Jb2 a.op.toNat = ofO t.op.toNat) && Jd7 a) = false := fun hb => by
    rw [Bool.eq_false_iff]; intro h; rw [List.all_eq_true.1 h a ham] at hb; cases hb
   obtain ⟨b', off', hadr, hbl', hcell'⟩ := hR.cellN hSa.head
   cases hadr
   have hxa : ∀ {W : World}, Kp [] w W → ∀ j v, (qC a.hd)[j]? = some v → W.cell? ⟨b, off + Jl5 at_ t i * 4 + j, none⟩ = some v := fun hk j v hv => by
    rw [← hcell' j v hv]; exact World.cell?_of_block (hk.at_ b hbl sI)
   refine zS ?_
   refine Zm (vs := [.slice (some ⟨b, off, none⟩) l.length cap]) rfl g3.cs ?_
   refine zS ?_
   refine Zc (Qd2 (hR.kp k0 sI) hS ha oM) ?_
   rintro v w7 ⟨rfl, k7⟩
   have g5 := k7.b0 g5
   have g3 := k7.b0 g3
   have k0 := k0.trans k7
   refine zL g3 ?_
   refine Zo (v := I a.op) rfl (by rw [Ja2, ← a.hd_op]; exact hxa k0 0 _ rfl) ?_
   refine Zc (Jl0 a.op) ?_
   rintro v w8 ⟨rfl, k8⟩
   have g5 := k8.b0 g5
   have g3 := k8.b0 g3
   have k0 := k0.trans k8
   refine zS ?_
   refine Za ?_
   intro b9 w9 e9 hu9
   refine Zs (b := b9) (cs := rtC (rtO a.op)) rfl hu9.blk lR rfl (by simp [Value.oneCell', rtC]) ?_
   intro w10 hu10
   have k810 : Kp [] w8 w10 := (hu9.new oM).since (hu10.kp [b9] (.inl sI)) (by simp; omega)
   have g9 : Blk w10 b9 [S (rtO a.op).word, I (rtO a.op).kids, I (rtO a.op).of_, I (Jb2 a.op.toNat), .bool (rtO a.op).binds] 154 := by
    rw [← (Jr5 hoa.1 hoa.2.1).2.2.1]; exact hu10.blk
   have g5 := k810.b0 g5
   have g3 := k810.b0 g3
   have k0 := k0.trans k810
   clear hu9 hu10
   refine zS ?_
   refine Zl rfl g9 (v := I (Jb2 a.op.toNat)) ?_
   refine zL g5 ?_
   refine Ja5 _ _ rfl rfl rfl (fun hne => ?_) (fun heq => ?_)
   ·have hne : decide (Jb2 a.op.toNat = ofO t.op.toNat) = false := by rwa [Bool.not_eq_true'] at hne
    rw [hno (by rw [hne]; rfl)]
    refine zS ?_
    exact ⟨_, rfl, rfl, k0⟩
   ·have heq : decide (Jb2 a.op.toNat = ofO t.op.toNat) = true := by rwa [Bool.not_eq_false'] at heq
    refine zS ?_
    refine Zm (vs := [.slice (some ⟨b, off, none⟩) l.length cap]) rfl g3.cs ?_
    refine zS ?_
    refine Zc (Qg8 n a oM hga (hR.kp k0 sI) hSa) ?_
    rintro v w11 ⟨rfl, k11⟩
    cases hb : Jd7 a with
    | true =>
     refine zS ?_
     exact ⟨i + 1, rfl, ⟨oM, ((((kW.trans k7).trans k8).trans k810).trans k11), by rw [ht1, List.all_append, hall]; simp [hb, heq]⟩, oM⟩
    | false =>
     rw [hno (by rw [hb, Bool.and_false])]
     refine zS ?_
     exact ⟨_, rfl, rfl, k0.trans k11⟩
  ·obtain rfl : i = t.subs.length := oM
   rw [List.take_length] at hall
   rw [hall]
   refine zS ?_
   exact ⟨_, rfl, rfl, k0⟩
theorem Qg5 {l : List QN} {ad : Option Addr} {cap : Nat} (hR : Rows w ad cap l) :
  Ret Tryz.prog 29 [qV ad l.length cap] w (fun v w' => v = .tuple #[I (Js2 l).1, I (Js2 l).2] ∧ Kp [] w w') := by
 have hm := hR.max_
 have hcl := hR.len
 have hck : Js2 l = match (match Jh1 l with
  | none => .error 305
  | some t => if Jd9 t [] = false then .error 303 else if Jd7 t = false then .error 304 else .ok t : Except Int QT) with
  | .error c => (0, c)
  | .ok t => (Jb2 t.op.toNat, 0) := rfl
 refine Ze Tryz.call29 Tryz.func29 ?_
 refine zS ?_
 refine Zx ?_
 intro b1 w1 e1 hu1
 have k0 : Kp [] w w1 := hu1.new oM
 have g1 : Blk w1 b1 [.slice ad l.length cap] 24 := hu1.blk
 clear hu1
 refine zS ?_
 refine Zm (vs := [.slice ad l.length cap]) rfl g1.cs ?_
 refine Zc (Qe8 (hR.kp k0 sI)) ?_
 rintro v w2 ⟨rfl, k2⟩
 have g1 := k2.b0 g1
 have k0 := k0.trans k2
 cases hw : Jh1 l with
 | none =>
  rw [hw] at hck
  rw [hck]
  refine zS ?_
  exact ⟨_, rfl, rfl, k0⟩
 | some t =>
  rw [hw] at hck
  dsimp only at hck
  obtain ⟨hg, hl, hd⟩ := Jm7 hR.num hw
  have hS : SubT l 0 t := ⟨[], by rw [List.drop_zero, List.append_nil]; exact hl⟩
  have hop := Jm3 hg
  have hsp := hS.len
  have htp := t.size_pos
  refine zS ?_
  refine Zm (vs := [.slice ad l.length cap]) rfl g1.cs ?_
  refine Zc (Qe5 t.size t (at_ := 0) (nad := none) (ncap := 0) (names := []) lR hg (hR.kp k0 sI) hS (show Ja7 _ none [] from rfl) (by simp; omega)) ?_
  rintro v w3 ⟨rfl, k3⟩
  have g1 := k3.b0 g1
  have k0 := k0.trans k3
  cases hn : Jd9 t [] with
  | false =>
   rw [if_pos hn] at hck
   rw [hck]
   refine zS ?_
   exact ⟨_, rfl, rfl, k0⟩
  | true =>
   rw [if_neg (by rw [hn]; simp)] at hck
   refine zS ?_
   refine Zm (vs := [.slice ad l.length cap]) rfl g1.cs ?_
   refine Zc (Qg8 t.size t (at_ := 0) lR hg (hR.kp k0 sI) hS) ?_
   rintro v w4 ⟨rfl, k4⟩
   have g1 := k4.b0 g1
   have k0 := k0.trans k4
   cases hs : Jd7 t with
   | false =>
    rw [if_pos hs] at hck
    rw [hck]
    refine zS ?_
    exact ⟨_, rfl, rfl, k0⟩
   | true =>
    rw [if_neg (by rw [hs]; simp)] at hck
    dsimp only at hck
    rw [hck]
    obtain ⟨b, off, rfl, hbl, hcell⟩ := (hR.kp k0 sI).cellN hS.head
    refine zL g1 ?_
    refine Zo (v := I t.op) rfl (by rw [← t.hd_op]; exact hcell 0 _ rfl) ?_
    refine Zc (Jl0 t.op) ?_
    rintro v w5 ⟨rfl, k5⟩
    refine zS ?_
    refine Za ?_
    intro b4 w6 e6 hu6
    refine Zs (b := b4) (cs := rtC (rtO t.op)) rfl hu6.blk lR rfl (by simp [Value.oneCell', rtC]) ?_
    intro w7 hu7
    have k57 : Kp [] w5 w7 := (hu6.new oM).since (hu7.kp [b4] (.inl sI)) (by simp; omega)
    have g4 : Blk w7 b4 [S (rtO t.op).word, I (rtO t.op).kids, I (rtO t.op).of_, I (Jb2 t.op.toNat), .bool (rtO t.op).binds] 154 := by
     rw [← (Jr5 hop.1 hop.2.1).2.2.1]; exact hu7.blk
    refine zL g4 ?_
    exact ⟨_, rfl, rfl, (k0.trans k5).trans k57⟩
end
section
variable {w : World}
theorem Jp3 (op : Int) : Ret Tryz.prog 114 [I op] w (fun v w' => v = .bool (Js3 op) ∧ w' = w) := by
 refine Ze Tryz.call114 Tryz.func114 ?_
 refine zS ?_
 refine r_if rfl (fun h1 => ?_) (fun h1 => ?_)
 ·rw [show Js3 op = true from decide_eq_true oM]
  refine zS ?_
  refine Jf7 rfl (decide_eq_true h1) ?_
  refine zS ?_
  exact ⟨_, rfl, rfl, rfl⟩
 refine zS ?_
 refine r_if rfl (fun h2 => ?_) (fun h2 => ?_)
 ·rw [show Js3 op = true from decide_eq_true oM]
  refine zS ?_
  refine Jf7 rfl (decide_eq_true h2) ?_
  refine zS ?_
  exact ⟨_, rfl, rfl, rfl⟩
 refine zS ?_
 refine r_if rfl (fun h3 => ?_) (fun h3 => ?_)
 ·rw [show Js3 op = true from decide_eq_true oM]
  refine zS ?_
  refine Jf7 rfl (decide_eq_true h3) ?_
  refine zS ?_
  exact ⟨_, rfl, rfl, rfl⟩
 refine zS ?_
 refine r_if rfl (fun h8 => ?_) (fun h8 => ?_)
 ·rw [show Js3 op = true from decide_eq_true oM]
  refine zS ?_
  refine Jf7 rfl (decide_eq_true h8) ?_
  refine zS ?_
  exact ⟨_, rfl, rfl, rfl⟩
 refine zS ?_
 refine r_if rfl (fun h9 => ?_) (fun h9 => ?_)
 ·rw [show Js3 op = true from decide_eq_true oM]
  refine zS ?_
  refine Jf7 rfl (decide_eq_true h9) ?_
  refine zS ?_
  exact ⟨_, rfl, rfl, rfl⟩
 refine zS ?_
 refine r_if rfl (fun h10 => ?_) (fun h10 => ?_)
 ·rw [show Js3 op = true from decide_eq_true oM]
  refine zS ?_
  refine Jf7 rfl (decide_eq_true h10) ?_
  refine zS ?_
  exact ⟨_, rfl, rfl, rfl⟩
 refine zS ?_
 refine r_if rfl (fun h20 => ?_) (fun h20 => ?_)
 ·rw [show Js3 op = true from decide_eq_true oM]
  refine zS ?_
  refine Jf7 rfl (decide_eq_true h20) ?_
  refine zS ?_
  exact ⟨_, rfl, rfl, rfl⟩
 refine zS ?_
 refine r_if rfl (fun h => ?_) (fun h => ?_)
 ·rw [show Js3 op = true from decide_eq_true oM]
  refine zS ?_
  exact ⟨_, rfl, rfl, rfl⟩
 ·rw [show Js3 op = false from decide_eq_false oM]
  refine zS ?_
  exact ⟨_, rfl, rfl, rfl⟩
abbrev ToldR (l : List QN) (ad : Option Addr) (cap at_ : Nat) (t : QT) (w : World) : Prop := Ret Tryz.prog 69 [qV ad l.length cap, I at_] w (fun v w' => v = S (Jc8 t) ∧ Kp [] w w')
theorem inner30_ret {t : QT} {l : List QN} {ad : Option Addr} {cap at_ : Nat} (hT : ∀ w', Kp [] w w' → ToldR l ad cap at_ t w') (hg : Jd2 t) (hR : Rows w ad cap l) (hS : SubT l at_ t) :
  Ret Tryz.prog 113 [qV ad l.length cap, I at_] w (fun v w' => v = S (brk t (Jc8 t)) ∧ Kp [] w w') := by
 have hm := hR.max_
 have hcl := hR.len
 have hle := hS.len
 have hsp := t.size_pos
 have htl := Jg2 t hg
 have hhd := t.hd_op
 obtain ⟨b, off, rfl, hbl, hcell⟩ := hR.cellN hS.head
 rw [brk_bare hg]
 refine Ze Tryz.call113 Tryz.func113 ?_
 refine zS ?_
 refine Zx ?_
 intro b2 w1 e2 hu1
 have k0 : Kp [] w w1 := hu1.new oM
 have g2 : Blk w1 b2 [.slice (some ⟨b, off, none⟩) l.length cap] 24 := hu1.blk
 clear hu1
 refine zS ?_
 refine Zm (vs := [.slice (some ⟨b, off, none⟩) l.length cap]) rfl g2.cs ?_
 refine zS ?_
 refine Zc (hT _ k0) ?_
 rintro v w2 ⟨rfl, k2⟩
 have g2 := k2.b0 g2
 have k0 := k0.trans k2
 refine zL g2 ?_
 refine Zo (v := I t.op) rfl (by rw [Ja2, ← hhd, ← hcell 0 (I t.hd.op) rfl]; exact World.cell?_of_block (k0.at_ b hbl sI)) ?_
 refine Zc (Jp3 t.op) ?_
 rintro v w3 ⟨rfl, rfl⟩
 cases hb : Js3 t.op with
 | true =>
  refine zS ?_
  exact ⟨_, rfl, rfl, k0⟩
 | false =>
  refine zS ?_
  exact ⟨_, rfl, rfl, k0⟩
theorem Qm1 : ∀ (n : Nat) (t : QT) {w : World} {l : List QN} {ad : Option Addr} {cap at_ : Nat}, t.size ≤ n → PowQ w → Jd2 t → Rows w ad cap l → SubT l at_ t → ToldR l ad cap at_ t w
 | 0, t, w, l, ad, cap, at_, hs, _, _, _, _ => absurd hs (by have := t.size_pos; omega)
 | n + 1, t, w, l, ad, cap, at_, hs, hP, hg, hR, hS => by
  have hm := hR.max_
  have hcl := hR.len
  have hop := Jm3 hg
  have hle := hS.len
  have hsp := t.size_pos
  have hkl := Jk7 t.op.toNat
  have hhd := t.hd_op
  have htl := Jg2 t hg
  have hwl : (Ja3 t.op.toNat).length ≤ 6 := Jz6 _
  obtain ⟨b, off, rfl, hbl, hcell⟩ := hR.cellN hS.head
  have kidT : ∀ {i : Nat} {a : QT}, t.subs[i]? = some a → ∀ {w' : World}, Kp [] w w' → Ret Tryz.prog 112 [qV (some ⟨b, off, none⟩) l.length cap, I at_, I i] w' (fun v w'' => v = I (Jl5 at_ t i) ∧ Kp [] w' w'') := fun ha _ hk => Qd2 (hR.kp hk sI) hS ha oM
  have toldT : ∀ {i : Nat} {a : QT}, t.subs[i]? = some a → ∀ {w' : World}, Kp [] w w' → ToldR l (some ⟨b, off, none⟩) cap (Jl5 at_ t i) a w' := fun ha _ hk =>
   have ham := List.mem_of_getElem? ha
   Qm1 n _ (by have := QT.subs_size ham; omega) (hP.kp hk sI) (Je7 hg ham) (hR.kp hk sI) (hS.kid ha)
  have innerT : ∀ {i : Nat} {a : QT}, t.subs[i]? = some a → ∀ {w' : World}, Kp [] w w' → Ret Tryz.prog 113 [qV (some ⟨b, off, none⟩) l.length cap, I (Jl5 at_ t i)] w' (fun v w'' => v = S (brk a (Jc8 a)) ∧ Kp [] w' w'') := fun ha _ hk =>
   have ham := List.mem_of_getElem? ha
   inner30_ret (fun w' hk' => toldT ha (hk.trans hk')) (Je7 hg ham) (hR.kp hk sI) (hS.kid ha)
  refine Ze Tryz.call69 Tryz.func69 ?_
  refine zS ?_
  refine Zx ?_
  intro b2 w1 e2 hu1
  have k1 : Kp [] w w1 := hu1.new oM
  have g2 : Blk w1 b2 [.slice (some ⟨b, off, none⟩) l.length cap] 24 := hu1.blk
  clear hu1
  refine zL g2 ?_
  refine Zm (vs := qC t.hd) rfl (fun j v hv => by rw [Ja2, ← hcell j v hv]; exact World.cell?_of_block (k1.at_ b hbl sI)) ?_
  refine Za ?_
  intro b5 w2 e5 hu2
  refine Zs (b := b5) (cs := qC t.hd) rfl hu2.blk lR rfl (by simp [Value.oneCell', qC]) ?_
  intro w3 hu3
  have k13 : Kp [] w1 w3 := (hu2.new oM).since (hu3.kp [b5] (.inl sI)) (by simp; omega)
  have g5 : Blk w3 b5 [I t.op, I t.hd.size, I t.hd.num, S t.hd.name] 81 := by rw [← hhd]; exact hu3.blk
  have g2 := k13.b0 g2
  have k0 := k1.trans k13
  clear hu2 hu3 k1 k13
  refine zL g5 ?_
  refine Zc (Jl0 t.op) ?_
  rintro v w4 ⟨rfl, k4⟩
  have g5 := k4.b0 g5
  have g2 := k4.b0 g2
  have k0 := k0.trans k4
  refine zS ?_
  refine Za ?_
  intro b6 w5 e6 hu5
  refine Zs (b := b6) (cs := rtC (rtO t.op)) rfl hu5.blk lR rfl (by simp [Value.oneCell', rtC]) ?_
  intro w6 hu6
  have k46 : Kp [] w4 w6 := (hu5.new oM).since (hu6.kp [b6] (.inl sI)) (by simp; omega)
  have hrt := Jr5 hop.1 hop.2.1
  have g6 : Blk w6 b6 [S (Ja3 t.op.toNat), I (t.subs.length : Nat), I (rtO t.op).of_, I (rtO t.op).ans, .bool (Jb6 t.op.toNat)] 154 := by
   rw [hop.2.2.1, ← hrt.1, ← hrt.2.2.2.1, ← hrt.2.2.2.2]; exact hu6.blk
  have g5 := k46.b0 g5
  have g2 := k46.b0 g2
  have k0 := k0.trans k46
  clear hu5 hu6 k46 hrt
  refine zL g5 ?_
  refine r_if rfl (fun h1 => ?_) (fun h1 => ?_)
  ·obtain ⟨m, hnum, hmn, htold⟩ := told_1 hg h1
   refine zS ?_
   refine Jf4 rfl g5 (v := I m) (by rw [← hnum]; rfl) rfl rfl rfl rfl ?_
   refine Zc (Itoa_ret (hP.kp k0 sI) m hmn) ?_
   rintro v w7 ⟨rfl, k7⟩
   refine zS ?_
   exact ⟨_, rfl, by rw [htold], k0.trans k7⟩
  refine zL g5 ?_
  refine r_if rfl (fun h2 => ?_) (fun h2 => ?_)
  ·refine zL g5 ?_
   exact ⟨_, rfl, by rw [told_2 hg h2], k0⟩
  refine zL g5 ?_
  refine r_if rfl (fun h3 => ?_) (fun h3 => ?_)
  ·refine zL g6 ?_
   exact ⟨_, rfl, by rw [told_3 hg h3], k0⟩
  refine zL g5 ?_
  refine r_if rfl (fun h4 => ?_) (fun h4 => ?_)
  ·skip
   obtain ⟨a, hk1, htold⟩ := told_4 hg h4
   have ha : t.subs[0]? = some a := by rw [hk1]; rfl
   have hga := Je7 hg (List.mem_of_getElem? ha)
   have hla := Jg2 a hga
   have hza := QT.subs_size (List.mem_of_getElem? ha)
   have hbl2 : (brk a (Jc8 a)).length ≤ (Jc8 a).length + 2 := Jq6 a
   refine zS ?_
   refine Ja9 ?_
   refine Jc9 Ja0 kR ?_
   refine zN g6 ?_
   refine Zw (vs := [.slice (some ⟨b, off, none⟩) l.length cap]) rfl (fun w' h' j v hv => by rw [Nat.zero_add]; exact (h'.b0 g2).cell hv) ?_
   refine Zw (vs := [.slice (some ⟨b, off, none⟩) l.length cap]) rfl (fun w' h' j v hv => by rw [Nat.zero_add]; exact (h'.b0 g2).cell hv) ?_
   refine zQ ?_
   refine Zk (I (Jl5 at_ t 0)) (fun w1 hk => (kidT ha (k0.trans hk)).mono fun v w' h => ⟨h.1, hk.trans h.2⟩) Tryz.call112 ?_
   refine zQ ?_
   refine Zk (S (brk a (Jc8 a))) (fun w1 hk => (innerT ha (k0.trans hk)).mono fun v w' h => ⟨h.1, hk.trans h.2⟩) Tryz.call113 ?_
   refine zQ ?_
   intro w' hs'
   refine zS ?_
   exact ⟨_, rfl, by rw [htold], k0.trans hs'⟩
  refine zL g5 ?_
  refine r_if rfl (fun h17 => ?_) (fun h17 => ?_)
  ·skip
   obtain ⟨a, hk1, htold⟩ := told_17 hg h17
   have ha : t.subs[0]? = some a := by rw [hk1]; rfl
   have hga := Je7 hg (List.mem_of_getElem? ha)
   have hla := Jg2 a hga
   have hza := QT.subs_size (List.mem_of_getElem? ha)
   have hbl2 : (brk a (Jc8 a)).length ≤ (Jc8 a).length + 2 := Jq6 a
   refine zS ?_
   refine Ja9 ?_
   refine Jc9 Ja0 kR ?_
   refine zN g6 ?_
   refine Zw (vs := [.slice (some ⟨b, off, none⟩) l.length cap]) rfl (fun w' h' j v hv => by rw [Nat.zero_add]; exact (h'.b0 g2).cell hv) ?_
   refine Zw (vs := [.slice (some ⟨b, off, none⟩) l.length cap]) rfl (fun w' h' j v hv => by rw [Nat.zero_add]; exact (h'.b0 g2).cell hv) ?_
   refine zQ ?_
   refine Zk (I (Jl5 at_ t 0)) (fun w1 hk => (kidT ha (k0.trans hk)).mono fun v w' h => ⟨h.1, hk.trans h.2⟩) Tryz.call112 ?_
   refine zQ ?_
   refine Zk (S (brk a (Jc8 a))) (fun w1 hk => (innerT ha (k0.trans hk)).mono fun v w' h => ⟨h.1, hk.trans h.2⟩) Tryz.call113 ?_
   refine zQ ?_
   intro w' hs'
   refine zS ?_
   exact ⟨_, rfl, by rw [htold], k0.trans hs'⟩
  refine zL g6 ?_
  refine Je1 rfl (fun hb => ?_) (fun hb => ?_)
  ·skip
   obtain ⟨a, hk1, hnl, htold⟩ := told_b hg (hop.2.2.2.1 hb)
   have ha : t.subs[0]? = some a := by rw [hk1]; rfl
   have hga := Je7 hg (List.mem_of_getElem? ha)
   have hla := Jg2 a hga
   have hza := QT.subs_size (List.mem_of_getElem? ha)
   refine zS ?_
   refine Ja9 ?_
   refine Jc9 Ja0 kR ?_
   refine zN g6 ?_
   refine zN g5 ?_
   refine Zw (vs := [.slice (some ⟨b, off, none⟩) l.length cap]) rfl (fun w' h' j v hv => by rw [Nat.zero_add]; exact (h'.b0 g2).cell hv) ?_
   refine Zw (vs := [.slice (some ⟨b, off, none⟩) l.length cap]) rfl (fun w' h' j v hv => by rw [Nat.zero_add]; exact (h'.b0 g2).cell hv) ?_
   refine zQ ?_
   refine Zk (I (Jl5 at_ t 0)) (fun w1 hk => (kidT ha (k0.trans hk)).mono fun v w' h => ⟨h.1, hk.trans h.2⟩) Tryz.call112 ?_
   refine zQ ?_
   refine Zk (S (Jc8 a)) (fun w1 hk => (toldT ha (k0.trans hk)).mono fun v w' h => ⟨h.1, hk.trans h.2⟩) Tryz.call69 ?_
   refine zQ ?_
   intro w' hs'
   refine zS ?_
   exact ⟨_, rfl, by rw [htold], k0.trans hs'⟩
  have hnb : ¬ 22 ≤ t.op := fun h => by rw [hop.2.2.2.2 h] at hb; cases hb
  refine zL g5 ?_
  refine Zc (Jp3 t.op) ?_
  rintro v w7 ⟨rfl, rfl⟩
  cases hbr : Js3 t.op with
  | false =>
   obtain ⟨a, c, hk1, htold⟩ := told_n hg h17 oM oM hbr
   have ha : t.subs[0]? = some a := by rw [hk1]; rfl
   have hc : t.subs[1]? = some c := by rw [hk1]; rfl
   have hla := Jg2 a (Je7 hg (List.mem_of_getElem? ha))
   have hza := QT.subs_size (List.mem_of_getElem? ha)
   have hlc := Jg2 c (Je7 hg (List.mem_of_getElem? hc))
   have hzc := QT.subs_size (List.mem_of_getElem? hc)
   have hbl2 : (brk a (Jc8 a)).length ≤ (Jc8 a).length + 2 := Jq6 a
   have hbl3 : (brk c (Jc8 c)).length ≤ (Jc8 c).length + 2 := Jq6 c
   refine zS ?_
   refine Zl rfl g5 (v := I t.op) ?_
   refine Zc (Jp3 t.op) ?_
   rintro v w8 ⟨rfl, rfl⟩
   rw [hbr]
   refine zS ?_
   refine Ja9 ?_
   refine Jc9 Ja0 kR ?_
   refine Zw (vs := [.slice (some ⟨b, off, none⟩) l.length cap]) rfl (fun w' h' j v hv => by rw [Nat.zero_add]; exact (h'.b0 g2).cell hv) ?_
   refine Zw (vs := [.slice (some ⟨b, off, none⟩) l.length cap]) rfl (fun w' h' j v hv => by rw [Nat.zero_add]; exact (h'.b0 g2).cell hv) ?_
   refine zQ ?_
   refine Zk (I (Jl5 at_ t 0)) (fun w1 hk => (kidT ha (k0.trans hk)).mono fun v w' h => ⟨h.1, hk.trans h.2⟩) Tryz.call112 ?_
   refine zQ ?_
   refine Zk (S (brk a (Jc8 a))) (fun w1 hk => (innerT ha (k0.trans hk)).mono fun v w' h => ⟨h.1, hk.trans h.2⟩) Tryz.call113 ?_
   refine zN g6 ?_
   refine Zw (vs := [.slice (some ⟨b, off, none⟩) l.length cap]) rfl (fun w' h' j v hv => by rw [Nat.zero_add]; exact (h'.b0 g2).cell hv) ?_
   refine Zw (vs := [.slice (some ⟨b, off, none⟩) l.length cap]) rfl (fun w' h' j v hv => by rw [Nat.zero_add]; exact (h'.b0 g2).cell hv) ?_
   refine zQ ?_
   refine Zk (I (Jl5 at_ t 1)) (fun w1 hk => (kidT hc (k0.trans hk)).mono fun v w' h => ⟨h.1, hk.trans h.2⟩) Tryz.call112 ?_
   refine zQ ?_
   refine Zk (S (brk c (Jc8 c))) (fun w1 hk => (innerT hc (k0.trans hk)).mono fun v w' h => ⟨h.1, hk.trans h.2⟩) Tryz.call113 ?_
   refine zQ ?_
   intro w' hs'
   refine zS ?_
   exact ⟨_, rfl, by rw [htold], k0.trans hs'⟩
  | true =>
   have hbr' := of_decide_eq_true hbr
   by_cases hk : t.op = 20 ∨ t.op = 21
   ·obtain ⟨a, c, hk1, htold⟩ := told_c2 hg hk
    have ha : t.subs[0]? = some a := by rw [hk1]; rfl
    have hc : t.subs[1]? = some c := by rw [hk1]; rfl
    have hla := Jg2 a (Je7 hg (List.mem_of_getElem? ha))
    have hza := QT.subs_size (List.mem_of_getElem? ha)
    have hlc := Jg2 c (Je7 hg (List.mem_of_getElem? hc))
    have hzc := QT.subs_size (List.mem_of_getElem? hc)
    have hk2 : t.subs.length = 2 := by rw [hk1]; rfl
    rw [hk2] at g6
    refine zL g6 ?_
    refine Zl rfl g5 (v := I t.op) ?_
    refine Zc (Jp3 t.op) ?_
    rintro v w8 ⟨rfl, rfl⟩
    rw [hbr]
    refine zS ?_
    refine Ja9 ?_
    refine Jc9 Ja0 kR ?_
    refine zN g6 ?_
    refine Zw (vs := [.slice (some ⟨b, off, none⟩) l.length cap]) rfl (fun w' h' j v hv => by rw [Nat.zero_add]; exact (h'.b0 g2).cell hv) ?_
    refine Zw (vs := [.slice (some ⟨b, off, none⟩) l.length cap]) rfl (fun w' h' j v hv => by rw [Nat.zero_add]; exact (h'.b0 g2).cell hv) ?_
    refine zQ ?_
    refine Zk (I (Jl5 at_ t 0)) (fun w1 hk => (kidT ha (k0.trans hk)).mono fun v w' h => ⟨h.1, hk.trans h.2⟩) Tryz.call112 ?_
    refine zQ ?_
    refine Zk (S (Jc8 a)) (fun w1 hk => (toldT ha (k0.trans hk)).mono fun v w' h => ⟨h.1, hk.trans h.2⟩) Tryz.call69 ?_
    refine zQ ?_
    refine Zw (vs := [.slice (some ⟨b, off, none⟩) l.length cap]) rfl (fun w' h' j v hv => by rw [Nat.zero_add]; exact (h'.b0 g2).cell hv) ?_
    refine Zw (vs := [.slice (some ⟨b, off, none⟩) l.length cap]) rfl (fun w' h' j v hv => by rw [Nat.zero_add]; exact (h'.b0 g2).cell hv) ?_
    refine zQ ?_
    refine Zk (I (Jl5 at_ t 1)) (fun w1 hk => (kidT hc (k0.trans hk)).mono fun v w' h => ⟨h.1, hk.trans h.2⟩) Tryz.call112 ?_
    refine zQ ?_
    refine Zk (S (Jc8 c)) (fun w1 hk => (toldT hc (k0.trans hk)).mono fun v w' h => ⟨h.1, hk.trans h.2⟩) Tryz.call69 ?_
    refine zQ ?_
    intro w' hs'
    refine zS ?_
    exact ⟨_, rfl, by rw [htold], k0.trans hs'⟩
   ·obtain ⟨a, hk1, htold⟩ := told_c1 hg oM
    have ha : t.subs[0]? = some a := by rw [hk1]; rfl
    have hla := Jg2 a (Je7 hg (List.mem_of_getElem? ha))
    have hza := QT.subs_size (List.mem_of_getElem? ha)
    have hk2 : t.subs.length = 1 := by rw [hk1]; rfl
    rw [hk2] at g6
    refine zL g6 ?_
    refine Ja9 ?_
    refine Jc9 Ja0 kR ?_
    refine zN g6 ?_
    refine Zw (vs := [.slice (some ⟨b, off, none⟩) l.length cap]) rfl (fun w' h' j v hv => by rw [Nat.zero_add]; exact (h'.b0 g2).cell hv) ?_
    refine Zw (vs := [.slice (some ⟨b, off, none⟩) l.length cap]) rfl (fun w' h' j v hv => by rw [Nat.zero_add]; exact (h'.b0 g2).cell hv) ?_
    refine zQ ?_
    refine Zk (I (Jl5 at_ t 0)) (fun w1 hk => (kidT ha (k0.trans hk)).mono fun v w' h => ⟨h.1, hk.trans h.2⟩) Tryz.call112 ?_
    refine zQ ?_
    refine Zk (S (Jc8 a)) (fun w1 hk => (toldT ha (k0.trans hk)).mono fun v w' h => ⟨h.1, hk.trans h.2⟩) Tryz.call69 ?_
    refine zQ ?_
    intro w' hs'
    refine zS ?_
    exact ⟨_, rfl, by rw [htold], k0.trans hs'⟩
theorem Qj3 {l : List QN} {ad : Option Addr} {cap : Nat} (hP : PowQ w) (hR : Rows w ad cap l) :
  Ret Tryz.prog 30 [qV ad l.length cap] w (fun v w' => v = .tuple #[S (Ju8 l).1, I (Ju8 l).2] ∧ Kp [] w w') := by
 have hm := hR.max_
 have hcl := hR.len
 have hpr : Ju8 l = match (match Jh1 l with | none => .error 305 | some t => if 4096 < l.length then .error 3 else if 4096 < (Jc8 t).length then .error 3 else .ok (Jc8 t) : Except Int (List UInt8)) with
  | .error c => ([], c)
  | .ok s => (s, 0) := rfl
 refine Ze Tryz.call30 Tryz.func30 ?_
 refine zS ?_
 refine Zx ?_
 intro b1 w1 e1 hu1
 have k0 : Kp [] w w1 := hu1.new oM
 have g1 : Blk w1 b1 [.slice ad l.length cap] 24 := hu1.blk
 clear hu1
 refine zS ?_
 refine Zm (vs := [.slice ad l.length cap]) rfl g1.cs ?_
 refine Zc (Qe8 (hR.kp k0 sI)) ?_
 rintro v w2 ⟨rfl, k2⟩
 have g1 := k2.b0 g1
 have k0 := k0.trans k2
 cases hw : Jh1 l with
 | none =>
  rw [hw] at hpr
  rw [hpr]
  refine zS ?_
  exact ⟨_, rfl, rfl, k0⟩
 | some t =>
  rw [hw] at hpr
  dsimp only at hpr
  obtain ⟨hg, hl, hd⟩ := Jm7 hR.num hw
  have hS : SubT l 0 t := ⟨[], by rw [List.drop_zero, List.append_nil]; exact hl⟩
  have htl := Jg2 t hg
  have hsl := hS.len
  refine zL g1 ?_
  refine r_if rfl (fun h1 => ?_) (fun h1 => ?_)
  ·rw [if_pos oM] at hpr
   rw [hpr]
   refine zS ?_
   exact ⟨_, rfl, rfl, k0⟩
  rw [if_neg oM] at hpr
  refine zS ?_
  refine Zm (vs := [.slice ad l.length cap]) rfl g1.cs ?_
  refine Zc (Qm1 t.size t (at_ := 0) lR (hP.kp k0 sI) hg (hR.kp k0 sI) hS) ?_
  rintro v w3 ⟨rfl, k3⟩
  have k0 := k0.trans k3
  refine zS ?_
  refine r_if rfl (fun h2 => ?_) (fun h2 => ?_)
  ·rw [if_pos oM] at hpr
   rw [hpr]
   refine zS ?_
   exact ⟨_, rfl, rfl, k0⟩
  ·rw [if_neg oM] at hpr
   rw [hpr]
   refine zS ?_
   exact ⟨_, rfl, rfl, k0⟩
end
end Go.Vc
