/- LocksetPlays: two seats, apart. -/
import Derived.Test.YtkgjibhbhddckaaDoorQClKPlays44
import Derived.Test.YtkgjibhbhddckaaDoorRows
import Derived.Test.YtkgjibhbhddckaaDoorQClKPlays32
import Derived.Test.YtkgjibhbhddckaaDoorQClKPlays14
import Derived.Test.YtkgjibhbhddckaaDoorQClKPlays19
import Derived.Test.YtkgjibhbhddckaaDoorQClKPlays24
import Derived.OpenShut
import Derived.Deep.DeepHandedRow
namespace Go.Vc
open Go Go.Proofs
set_option maxRecDepth 10000
variable {w : World}
def PG.In (x : PG) (b : Nat) : Prop := x.k.In b ∨ x.r.In b
def PG.Wr (x : PG) (b : Nat) : Prop := x.k.Wr b ∨ x.r.Wr b
/-- a seat: the keeper and the reference's, apart -/
structure Seat (w : World) (s : Shp) (x : PG) : Prop extends PIn w s x where
  d1 : ∀ b, x.k.Wr b → ¬ x.r.In b
  d2 : ∀ b, x.r.Wr b → ¬ x.k.In b
  d3 : ¬ x.Wr 0
theorem PG.WrIn {x : PG} {b : Nat} (h : x.Wr b) : x.In b := by
  rcases h with h | h
  · exact .inl h.1
  · exact .inr (K23.WrIn h)
section
variable {s : Shp} {x y : PG}
theorem Seat.lt (h : Seat w s x) : ∀ b, x.In b → b < w.heap.size := fun b hb => by
  rcases hb with ⟨i, hb⟩ | hb
  · exact h.ks.at_.lt i b hb
  · exact h.rs.lt b hb
theorem KS.kq {g : KG} {S : LS} (h : KS w g s S) {w' : World} {Q : Nat → Prop} (hk : Kq Q w w') (hd : ∀ b, Q b → ¬ g.In b) (ht : ¬ Q 0) : KS w' g s S := by
  obtain ⟨L, hL, hq⟩ := hk.kp
  exact ⟨h.at_.kp hL (fun i b hb hb2 => hd b (hq b hb2) ⟨i, hb⟩) (fun hb => ht (hq _ hb)), h.H, h.V⟩
theorem R23.kq {g : K23} {c : Ck} {A : List AccR} (h : R23 w g s c A) {w' : World} {Q : Nat → Prop} (hk : Kq Q w w') (hd : ∀ b, Q b → ¬ g.In b) : R23 w' g s c A := by
  obtain ⟨L, hL, hq⟩ := hk.kp
  exact h.kp hL (fun b hb hb2 => hd b (hq b hb2) hb)
theorem Seat.kq (h : Seat w s x) {w' : World} {Q : Nat → Prop} (hk : Kq Q w w') (hd : ∀ b, Q b → ¬ x.In b) (ht : ¬ Q 0) : Seat w' s x :=
  ⟨⟨h.ks.kq hk (fun b hb hi => hd b hb (.inl hi)) ht, h.vok, h.rs.kq hk (fun b hb hi => hd b hb (.inr hi)), h.inn, h.nn⟩, h.d1, h.d2, h.d3⟩
theorem Seat.kp0 (h : Seat w s x) {w' : World} (k : Kp [] w w') : Seat w' s x := ⟨h.toPIn.kp0 k, h.d1, h.d2, h.d3⟩
/-- what a step leaves of a seat -/
structure STo (w : World) (x : PG) (w' : World) (x' : PG) : Prop where
  kq : Kq x.Wr w w'
  inn : ∀ b, x'.In b → x.In b ∨ w.heap.size ≤ b
  wr : ∀ b, x'.Wr b → x.Wr b ∨ w.heap.size ≤ b
theorem STo.of0 {w' : World} (k : Kp [] w w') : STo w x w' x := ⟨k.kq (by simp), fun b hb => .inl hb, fun b hb => .inl hb⟩
theorem KTo.wr {g g' : KG} {w' : World} (k : KTo w g w' g') : ∀ b, g'.Wr b → g.Wr b ∨ w.heap.size ≤ b := fun b hb => by
  rcases k.new b hb.1 with q | q
  · exact .inl ⟨q, by rw [← k.pad]; exact hb.2⟩
  · exact .inr q
/-- the reference stands behind the keeper's step -/
theorem Seat.mid (h : Seat w s x) {w1 : World} {k' : KG} (kt : KTo w x.k w1 k') : R23 w1 x.r s x.S.c x.A := h.rs.kq kt.kw h.d1
/-- both have stepped -/
theorem Seat.step (h : Seat w s x) {w1 w2 : World} {k' : KG} {r' : K23} {S1 : LS} {A1 : List AccR} (hk : KS w1 k' s S1) (kt : KTo w x.k w1 k') (hv : S1.VOk) (hr : R23 w2 r' s S1.c A1) (hi : RIn s S1 A1) (rt : KTo23 w1 x.r w2 r') (hn : S1.c.n ≤ 2199023255552) :
    Seat w2 s ⟨k', r', S1, A1⟩ ∧ STo w x w2 ⟨k', r', S1, A1⟩ := by
  have hlt := h.lt
  have z1 := kt.kq.size
  have tl := h.ks.at_.tab.lt
  have kin : ∀ b, x.r.Wr b → ¬ k'.In b := fun b hb hb2 => by
    rcases kt.new b hb2 with q | q
    · exact h.d2 b hb q
    · have := hlt b (PG.WrIn (.inr hb)); omega
  have e3 : ∀ b, r'.In b → x.r.In b ∨ w.heap.size ≤ b := fun b hb => by
    rcases rt.new b hb with q | q
    · exact .inl q
    · exact .inr (by omega)
  have e4 : ∀ b, r'.Wr b → x.r.Wr b ∨ w.heap.size ≤ b := fun b hb => by
    rcases rt.wr b hb with q | q
    · exact .inl q
    · exact .inr (by omega)
  have hks2 : KS w2 k' s S1 := hk.kq rt.kq kin (fun ht => h.d3 (.inr ht))
  have klt : ∀ b, k'.In b → b < w1.heap.size := fun b ⟨i, hb⟩ => hk.at_.lt i b hb
  refine ⟨⟨⟨hks2, hv, hr, hi, hn⟩, fun b hb hb2 => ?_, fun b hb hb2 => ?_, fun ht => ?_⟩, ?_, fun b hb => ?_, fun b hb => ?_⟩
  · rcases rt.new b hb2 with q | q
    · rcases kt.wr b hb with p | p
      · exact h.d1 b p q
      · have := hlt b (.inr q); omega
    · have := klt b hb.1; omega
  · rcases rt.wr b hb with q | q
    · exact kin b q hb2
    · have := klt b hb2; omega
  · rcases ht with ht | ht
    · rcases kt.wr _ ht with p | p
      · exact h.d3 (.inl p)
      · omega
    · rcases e4 _ ht with p | p
      · exact h.d3 (.inr p)
      · omega
  · refine Kq.trans (S := x.Wr) (Q := x.Wr) ⟨kt.kw.os, kt.kw.tape, kt.kw.output, kt.kw.size, fun k hk hn => kt.kw.at_ k hk fun q => hn (.inl q)⟩ ⟨rt.kq.os, rt.kq.tape, rt.kq.output, rt.kq.size, fun k hk hn => rt.kq.at_ k hk fun q => hn (.inr q)⟩ (fun b hb => .inl hb)
  · rcases hb with hb | hb
    · rcases kt.new b hb with q | q
      · exact .inl (.inl q)
      · exact .inr q
    · rcases e3 b hb with q | q
      · exact .inl (.inr q)
      · exact .inr q
  · rcases hb with hb | hb
    · rcases kt.wr b hb with q | q
      · exact .inl (.inl q)
      · exact .inr q
    · rcases e4 b hb with q | q
      · exact .inl (.inr q)
      · exact .inr q
/-- two seats stand apart -/
def ApartP (x y : PG) : Prop := ∀ b, (x.Wr b → ¬ y.In b) ∧ (y.Wr b → ¬ x.In b)
theorem ApartP.symm (h : ApartP x y) : ApartP y x := fun b => ⟨(h b).2, (h b).1⟩
theorem ApartP.step (h : ApartP x y) {w' : World} {x' : PG} (ht : STo w x w' x') (hy : ∀ b, y.In b → b < w.heap.size) : ApartP x' y := fun b =>
  ⟨fun hb hb2 => by
    rcases ht.wr b hb with q | q
    · exact (h b).1 q hb2
    · have := hy b hb2; omega, fun hb hb2 => by
    rcases ht.inn b hb2 with q | q
    · exact (h b).2 hb q
    · have := hy b (PG.WrIn hb); omega⟩
/-- a copy of a seat -/
theorem Seat.copy (h : Seat w s x) {w1 w2 : World} {k' : KG} {r' : K23} (hat : KAt w1 k' s x.S.c) (hz : w.heap.size ≤ w1.heap.size) (hpad : k'.ck.pad = x.k.ck.pad) (hnew : ∀ b, k'.In b → b ∈ blkOf x.k.ck.pad ∨ w.heap.size ≤ b) (hH : ∀ t, oL (k'.H t) = oL (x.k.H t)) (hV : k'.vars.map varM = x.k.vars.map varM) (hr : KCp23 w1 x.r s x.S.c x.A w2 r') : Seat w2 s ⟨k', r', x.S, x.A⟩ ∧ ApartP x ⟨k', r', x.S, x.A⟩ ∧ ∀ b, (PG.mk k' r' x.S x.A).In b → x.In b ∨ w.heap.size ≤ b := by
  have hlt := h.lt
  have tl := h.ks.at_.tab.lt
  have z1 := hz
  have rold : ∀ b, b ∈ blkOf x.r.rg.pad ∨ b ∈ agB x.r.ag → x.r.In b ∧ ¬ x.r.Wr b := fun b hb => by
    have hnd := h.rs.rc.nd
    simp only [RG.F, List.nodup_cons, List.mem_append, not_or, List.nodup_append] at hnd
    rcases hb with hb | hb
    · have hF : b ∈ x.r.rg.F := by simp [RG.F, hb]
      refine ⟨.inr (.inl hF), fun hw => ?_⟩
      rcases hw with q | q | q
      · exact h.rs.n1 (q ▸ hF)
      · simp only [RG.W, List.mem_cons, List.mem_append] at q
        rcases q with q | q | q | q
        · exact hnd.1.1 (q ▸ hb)
        · exact hnd.2.2.2 b hb b (.inl q) rfl
        · exact hnd.2.2.2 b hb b (.inr (.inl q)) rfl
        · exact hnd.2.2.2 b hb b (.inr (.inr q)) rfl
      · exact (h.rs.n4 b q).1 hF
    · refine ⟨.inr (.inr (.inr hb)), fun hw => ?_⟩
      rcases hw with q | q | q
      · exact h.rs.n3 (q ▸ hb)
      · exact h.rs.n5 b hb (RG.WF b q)
      · exact (h.rs.n4 b q).2 hb
  have kold : ∀ b, b ∈ blkOf x.k.ck.pad → x.k.In b ∧ ¬ x.k.Wr b := fun b hb => ⟨⟨.core, (h.ks.at_.padC hb).1⟩, fun hw => hw.2 hb⟩
  have kwr : ∀ b, k'.Wr b → w.heap.size ≤ b := fun b hb => by
    rcases hnew b hb.1 with q | q
    · exfalso; exact hb.2 (by rw [hpad]; exact q)
    · exact q
  have klt : ∀ b, k'.In b → b < w1.heap.size := fun b ⟨i, hb⟩ => hat.lt i b hb
  have hinn : ∀ b, (PG.mk k' r' x.S x.A).In b → (x.In b ∧ ¬ x.Wr b) ∨ w.heap.size ≤ b := fun b hb => by
    rcases hb with hb | hb
    · rcases hnew b hb with q | q
      · obtain ⟨p1, p2⟩ := kold b q
        exact .inl ⟨.inl p1, fun hw => by
          rcases hw with hw | hw
          · exact p2 hw
          · exact h.d2 b hw p1⟩
      · exact .inr q
    · rcases hr.new b hb with q | q
      · obtain ⟨p1, p2⟩ := rold b q
        exact .inl ⟨.inr p1, fun hw => by
          rcases hw with hw | hw
          · exact h.d1 b hw p1
          · exact p2 hw⟩
      · exact .inr (by omega)
  refine ⟨⟨⟨⟨hat.kp0 hr.kp, fun t => (hH t).trans (h.ks.H t), hV.trans h.ks.V⟩, h.vok, hr.at_, h.inn, h.nn⟩, fun b hb hb2 => ?_, fun b hb hb2 => ?_, fun ht => ?_⟩, fun b => ⟨fun hb hb2 => ?_, fun hb hb2 => ?_⟩, fun b hb => ?_⟩
  · have := kwr b hb
    rcases hr.new b hb2 with q | q
    · have := hlt b (.inr (rold b q).1); omega
    · have := klt b hb.1; omega
  · have := hr.wr b hb; have := klt b hb2; omega
  · rcases ht with ht | ht
    · have := kwr _ ht; omega
    · have := hr.wr _ ht; omega
  · rcases hinn b hb2 with ⟨_, q⟩ | q
    · exact q hb
    · have := hlt b (PG.WrIn hb); omega
  · have := hlt b hb2
    rcases hb with hb | hb
    · have := kwr b hb; omega
    · have := hr.wr b hb; omega
  · rcases hinn b hb with ⟨q, _⟩ | q
    · exact .inl q
    · exact .inr q
end
end Go.Vc
/- LocksetPlays: the state of the two seats. -/
namespace Go.Vc
open Go Go.Proofs
set_option maxRecDepth 10000
variable {w : World}
def setO (os : Nat → Option PG) (j : Nat) (o : Option PG) (i : Nat) : Option PG := if i = j then o else os i
structure SI (w W : World) (s : Shp) (b11 b12 : Nat) (os : Nat → Option PG) (N : Nat) : Prop where
  seat : ∀ j x, os j = some x → Seat W s x
  apart : ∀ i j x y, i ≠ j → os i = some x → os j = some y → ApartP x y
  nw : ∀ j x, os j = some x → (∀ b, x.In b → w.heap.size ≤ b ∧ b ≠ b11 ∧ b ≠ b12) ∧ x.S.c.n ≤ N
  a1 : Blk W b11 [kV (os 0), kV (os 1)] 53
  a2 : Blk W b12 [rV (os 0), rV (os 1)] 54
  a1w : w.heap.size ≤ b11
  a2w : w.heap.size ≤ b12
  ne : b11 ≠ b12
  kp : Kp [] w W
  ta : TabW W
  tl : 0 < w.heap.size
section
variable {W : World} {s : Shp} {b11 b12 N : Nat} {os : Nat → Option PG}
theorem SI.kp0 (h : SI w W s b11 b12 os N) {W' : World} (k : Kp [] W W') : SI w W' s b11 b12 os N :=
  ⟨fun j x hx => (h.seat j x hx).kp0 k, h.apart, h.nw, k.blk (by simp) h.a1, k.blk (by simp) h.a2, h.a1w, h.a2w, h.ne, h.kp.trans k, h.ta.kp k (by simp), h.tl⟩
theorem SI.pok (h : SI w W s b11 b12 os N) (j : Nat) : POk W s (os j) := fun x hx => (h.seat j x hx).toPIn
theorem SI.g1 (h : SI w W s b11 b12 os N) {j : Nat} (hj : j < 2) : W.cell? ⟨b11, j, none⟩ = some (kV (os j)) := by
  refine h.a1.cell ?_
  match j, hj with
  | 0, _ => rfl
  | 1, _ => rfl
theorem SI.g2 (h : SI w W s b11 b12 os N) {j : Nat} (hj : j < 2) : W.cell? ⟨b12, j, none⟩ = some (rV (os j)) := by
  refine h.a2.cell ?_
  match j, hj with
  | 0, _ => rfl
  | 1, _ => rfl
theorem SI.step (h : SI w W s b11 b12 os N) {W' : World} {j : Nat} {x x' : PG} (hx : os j = some x) (hs : Seat W' s x') (ht : STo W x W' x') (hk : x'.k.kp = x.k.kp) (hr : x'.r.p = x.r.p) {N' : Nat} (hn : N ≤ N') (hn' : x'.S.c.n ≤ N') : SI w W' s b11 b12 (setO os j (some x')) N' := by
  have hin := (h.nw j x hx).1
  have wr : ∀ b, x.Wr b → w.heap.size ≤ b ∧ b ≠ b11 ∧ b ≠ b12 := fun b hb => hin b (PG.WrIn hb)
  have hl1 := h.a1.lt
  have hl2 := h.a2.lt
  obtain ⟨L, hL, hq⟩ := ht.kq.kp
  have eK : ∀ i, kV (setO os j (some x') i) = kV (os i) := fun i => by
    unfold setO
    by_cases c : i = j
    · rw [if_pos c, c, hx]; simp [hk]
    · rw [if_neg c]
  have eR : ∀ i, rV (setO os j (some x') i) = rV (os i) := fun i => by
    unfold setO
    by_cases c : i = j
    · rw [if_pos c, c, hx]; simp [hr]
    · rw [if_neg c]
  have cs : ∀ i y, setO os j (some x') i = some y → (i = j ∧ y = x') ∨ (i ≠ j ∧ os i = some y) := fun i y hy => by
    unfold setO at hy
    by_cases c : i = j
    · rw [if_pos c] at hy; exact .inl ⟨c, (Option.some.inj hy).symm⟩
    · rw [if_neg c] at hy; exact .inr ⟨c, hy⟩
  have tabx : ¬ x.Wr 0 := (h.seat j x hx).d3
  refine ⟨fun i y hy => ?_, fun i k y z hik hy hz => ?_, fun i y hy => ?_, ?_, ?_, h.a1w, h.a2w, h.ne, h.kp.since hL (fun b hb => (wr b (hq b hb)).1), h.ta.kp hL (fun hb => tabx (hq _ hb)), h.tl⟩
  · rcases cs i y hy with ⟨_, rfl⟩ | ⟨c, hy⟩
    · exact hs
    · exact (h.seat i y hy).kq ht.kq (fun b hb => ((h.apart j i x y (fun e => c e.symm) hx hy) b).1 hb) tabx
  · rcases cs i y hy with ⟨e1, e2⟩ | ⟨c, hy'⟩
    · rcases cs k z hz with ⟨e3, e4⟩ | ⟨c', hz'⟩
      · exact absurd (e1.trans e3.symm) hik
      · rw [e2]
        exact (h.apart j k x z (fun e => c' e.symm) hx hz').step ht ((h.seat k z hz').lt)
    · rcases cs k z hz with ⟨e3, e4⟩ | ⟨c', hz'⟩
      · rw [e4]
        exact ((h.apart j i x y (fun e => c e.symm) hx hy').step ht ((h.seat i y hy').lt)).symm
      · exact h.apart i k y z hik hy' hz'
  · rcases cs i y hy with ⟨_, rfl⟩ | ⟨c, hy⟩
    · refine ⟨fun b hb => ?_, hn'⟩
      rcases ht.inn b hb with q | q
      · exact hin b q
      · have := h.kp.size; exact ⟨by omega, by omega, by omega⟩
    · obtain ⟨q1, q2⟩ := h.nw i y hy
      exact ⟨q1, by omega⟩
  · rw [eK 0, eK 1]; exact hL.blk (fun hb => (wr _ (hq _ hb)).2.1 rfl) h.a1
  · rw [eR 0, eR 1]; exact hL.blk (fun hb => (wr _ (hq _ hb)).2.2 rfl) h.a2
/-- the other seat is a copy now -/
theorem SI.copy (h : SI w W s b11 b12 os N) {W' : World} {j k : Nat} (hjk : j ≠ k) (h2 : ∀ i, i < 2 → i = j ∨ i = k) (h3 : ∀ i x, os i = some x → i < 2) {o : Option PG} (ho : ∀ x', o = some x' → ∃ x, os j = some x ∧ Seat W' s x' ∧ ApartP x x' ∧ (∀ b, x'.In b → x.In b ∨ W.heap.size ≤ b) ∧ x'.S.c.n ≤ N)
    (hk : Kp [b11, b12] W W') (h1 : Blk W' b11 [kV (setO os k o 0), kV (setO os k o 1)] 53) (h2' : Blk W' b12 [rV (setO os k o 0), rV (setO os k o 1)] 54) : SI w W' s b11 b12 (setO os k o) N := by
  have cs : ∀ i y, setO os k o i = some y → (i = k ∧ o = some y) ∨ (i = j ∧ os i = some y) := fun i y hy => by
    unfold setO at hy
    by_cases c : i = k
    · rw [if_pos c] at hy; exact .inl ⟨c, hy⟩
    · rw [if_neg c] at hy
      rcases h2 i (h3 i y hy) with e | e
      · exact .inr ⟨e, hy⟩
      · exact absurd e c
  have keep : ∀ i y, os i = some y → Seat W' s y := fun i y hy => by
    have hn := (h.nw i y hy).1
    refine (h.seat i y hy).kq (Q := fun b => b = b11 ∨ b = b12) (hk.kq (fun b hb => by simpa using hb)) (fun b hb hi => ?_) (fun ht => ?_)
    · rcases hb with hb | hb
      · exact (hn b hi).2.1 hb
      · exact (hn b hi).2.2 hb
    · have := h.ta
      have := h.tl
      have := h.a1w; have := h.a2w; omega
  refine ⟨fun i y hy => ?_, fun i m y z him hy hz => ?_, fun i y hy => ?_, h1, h2', h.a1w, h.a2w, h.ne, h.kp.since hk (fun b hb => by simp at hb; have := h.a1w; have := h.a2w; omega), ?_, h.tl⟩
  · rcases cs i y hy with ⟨_, e⟩ | ⟨_, e⟩
    · obtain ⟨_, _, q, _⟩ := ho y e; exact q
    · exact keep i y e
  · rcases cs i y hy with ⟨e1, e2⟩ | ⟨e1, e2⟩ <;> rcases cs m z hz with ⟨e3, e4⟩ | ⟨e3, e4⟩
    · exact absurd (e1.trans e3.symm) him
    · obtain ⟨x, q1, _, q3, _⟩ := ho y e2
      rw [e3, q1] at e4
      have e4 := Option.some.inj e4
      subst e4
      exact q3.symm
    · obtain ⟨x, q1, _, q3, _⟩ := ho z e4
      rw [e1, q1] at e2
      have e2 := Option.some.inj e2
      subst e2
      exact q3
    · exact absurd (e1.trans e3.symm) him
  · rcases cs i y hy with ⟨_, e⟩ | ⟨_, e⟩
    · obtain ⟨x, q1, _, _, q4, q5⟩ := ho y e
      refine ⟨fun b hb => ?_, q5⟩
      rcases q4 b hb with r | r
      · exact (h.nw j x q1).1 b r
      · have := h.kp.size; have := h.a1.lt; have := h.a2.lt; exact ⟨by omega, by omega, by omega⟩
    · exact h.nw i y e
  · exact h.ta.kp hk (fun ht => by
      have := h.tl
      simp at ht; have := h.a1w; have := h.a2w; omega)
end
/-! ### what is told is short -/
theorem phF_len {l : List AG} (h : ∀ x ∈ l, x.a.h.length ≤ 4096) : ∀ i, (phF (l.take i)).L.length ≤ 4096
  | 0 => by simp [phF, phasesR]
  | i + 1 => by
    have ih := phF_len h i
    cases hx : l[i]? with
    | none =>
      have : l.take (i + 1) = l.take i := by rw [List.take_add_one, hx]; simp
      rw [this]; exact ih
    | some x =>
      rw [phF_snoc hx, (wnR_L _ _).1]
      exact phR_len ih (h x (List.mem_of_getElem? hx))
theorem PIn.short {s : Shp} {x : PG} (h : PIn w s x) (n : Int) : (x.S.H n).length ≤ 4096 ∧ ((keepsR (ofR x.A n)).getD []).length ≤ 4096 ∧ (viewR s x.A n).L.length ≤ 4096 := by
  have hl : ∀ y ∈ ofG x.r.ag n, y.a.h.length ≤ 4096 := fun y hy => (h.rs.rd y (ofG_sub _ _ y hy)).2.1
  have e : (ofG x.r.ag n).map AG.a = ofR x.A n := by rw [ofG_map, h.rs.ags]
  refine ⟨?_, ?_, ?_⟩
  · rw [← h.inn.held]
    have := heldTo_len x.S.c n s.lo.toNat
    have := h.rs.rc.ok.sh.2.2.2.1
    show (heldTo x.S.c n s.lo.toNat).length ≤ 4096
    omega
  · rw [← e]
    cases hg : ofG x.r.ag n with
    | nil => simp [keepsR]
    | cons y r =>
      rw [kpF_keepsR]
      have := kpF_len y.a.h (y :: r)
      have := hl y (by rw [hg]; simp)
      simp only [Option.getD_some]; omega
  · unfold viewR
    split
    · rw [← e]
      have := phF_len hl (ofG x.r.ag n).length
      rw [List.take_length] at this
      exact this
    · simp
theorem POk.short {s : Shp} {o : Option PG} (h : POk w s o) (n : Int) : (tHeld o n).length ≤ 4096 ∧ ((tKeeps o n).getD []).length ≤ 4096 ∧ (tView s o n).L.length ≤ 4096 := by
  cases o with
  | none => simp [tHeld, tKeeps, tView]
  | some x => exact (h x rfl).short n
end Go.Vc
/- what the rows' reading of a struct of ints, of a list of events, and of a row of ints or bools says. -/
namespace Go.Vc
open Go Go.Proofs Go.ChangeShapes
set_option maxRecDepth 10000
theorem bulkS_lenA {H : Type} : ∀ (l : List (DataW H)), l.length ≤ Go.Proofs.YtkgjibhbhddckaaDoor.Rows.uptoBulkAll l
  | [] => by simp [Go.Proofs.YtkgjibhbhddckaaDoor.Rows.uptoBulkAll]
  | d :: r => by
    have ih := bulkS_lenA r
    have h1 : 1 ≤ Go.Proofs.YtkgjibhbhddckaaDoor.Rows.uptoBulk d := by
      cases d with
      | lit l => cases l <;> simp [Go.Proofs.YtkgjibhbhddckaaDoor.Rows.uptoBulk]
      | _ => simp [Go.Proofs.YtkgjibhbhddckaaDoor.Rows.uptoBulk]
    simp only [List.length_cons, Go.Proofs.YtkgjibhbhddckaaDoor.Rows.uptoBulkAll]; omega
theorem bulkS_mem {H : Type} {d : DataW H} : ∀ {l : List (DataW H)}, d ∈ l → Go.Proofs.YtkgjibhbhddckaaDoor.Rows.uptoBulk d ≤ Go.Proofs.YtkgjibhbhddckaaDoor.Rows.uptoBulkAll l
  | [], h => by simp at h
  | x :: r, h => by
    simp only [Go.Proofs.YtkgjibhbhddckaaDoor.Rows.uptoBulkAll]
    rcases List.mem_cons.1 h with rfl | h
    · omega
    · have := bulkS_mem h; omega
theorem bulkS_lits {H : Type} (k : IntKind) (zs : List Int) : Go.Proofs.YtkgjibhbhddckaaDoor.Rows.uptoBulkAll (lits (H := H) k zs) = zs.length := by
  induction zs with
  | nil => rfl
  | cons z r ih => show Go.Proofs.YtkgjibhbhddckaaDoor.Rows.uptoBulk (DataW.lit (.int k z)) + Go.Proofs.YtkgjibhbhddckaaDoor.Rows.uptoBulkAll (lits k r) = _; rw [ih]; simp only [Go.Proofs.YtkgjibhbhddckaaDoor.Rows.uptoBulk, List.length_cons]; omega
/-- one cell that is a slice of integers -/
theorem rdS_row {H : Type} {enc : TypeId × Value → H} {P : Program} {w : World} {base : Nat} {sp : Nat → Bool} {held : Bool} {t e : TypeId} {k : IntKind} {fuel : Nat} {v : Value} {x : DataW H × List MemPlace} (ht : P.underlying t = some (.slice e)) (he : P.underlying e = some (.int k)) (hc : P.cellsOf e = 1)
    (h : DataW.trod enc P w base sp held fuel t [v] = some x) : ∃ a cap, ∃ zs : List Int, v = .slice a zs.length cap ∧ ReadS w a (zs.map (Value.int k)) ∧ (∀ n ∈ zs, (Lit.int k n).wf = true) ∧ zs.length ≤ Go.Proofs.YtkgjibhbhddckaaDoor.Rows.uptoBulk x.1 := by
  rcases open_ints ht he hc h with ⟨hcs, hx⟩ | ⟨a, l, c, zs, hcs, _, hl, hm, hz, hx, hcell, hwz⟩
  · simp at hcs
    exact ⟨none, 0, [], hcs, rfl, by simp, by simp⟩
  · simp at hcs
    have hlz : l ≤ zs.length := by rw [hz]; split <;> omega
    have hlen : (zs.take l).length = l := by rw [List.length_take]; omega
    refine ⟨some a, c, zs.take l, by rw [hlen]; exact hcs, ?_, fun n hn => hwz n (List.mem_of_mem_take hn), ?_⟩
    · intro i y hy
      rw [List.getElem?_map, List.getElem?_take] at hy
      split at hy
      · rename_i hi
        have hi2 : i < zs.length := by omega
        rw [List.getElem?_eq_getElem hi2] at hy
        simp at hy; subst hy
        rw [hcell i hi2, List.getD_eq_getElem?_getD, List.getElem?_eq_getElem hi2]; rfl
      · simp at hy
    · rw [hx]
      simp only [Go.Proofs.YtkgjibhbhddckaaDoor.Rows.uptoBulk, bulkS_lits]; omega
theorem wfI {x : Int} (h : (Lit.int .i64 x).wf = true) : -9223372036854775808 ≤ x ∧ x ≤ 9223372036854775807 := by simpa [Lit.wf, IntKind.min, IntKind.max, IntKind.signed, IntKind.bits] using h
theorem flattenS {α β : Type} {f : α → List β} : ∀ (Cs : List (List β)), (∀ cs ∈ Cs, ∃ a, cs = f a) → ∃ l : List α, Cs = l.map f
  | [], _ => ⟨[], rfl⟩
  | c :: r, h => by
    obtain ⟨a, ha⟩ := h c (by simp)
    obtain ⟨l, hl⟩ := flattenS r (fun cs hcs => h cs (by simp [hcs]))
    exact ⟨a :: l, by rw [ha, hl]; rfl⟩
section
variable {H : Type} {enc : TypeId × Value → H} {w : World} {base : Nat} {sp : Nat → Bool} {held : Bool} {fuel : Nat} {d : DataW H} {ps : List MemPlace}
/-- a list of events -/
theorem rd_evs {a : Option Addr} {len cap : Nat} (h : DataW.trod enc Tryd.prog w base sp held fuel 55 (Value.slice a len cap).cells.toList = some (d, ps)) :
    ∃ xs : List Ev, (ReadS w a (evsC xs) ∧ xs.length = len ∧ len ≤ cap) ∧ xs.length ≤ Go.Proofs.YtkgjibhbhddckaaDoor.Rows.uptoBulk d := by
  obtain ⟨n, Cs, D, h1, h2, h3, h4, h5, hcap, _⟩ := trod_recs (m := 3) Tryd.underlying55 (by kernel_rfl) h
  have hall : Go.Proofs.YtkgjibhbhddckaaDoor.Rows.uptoBulkAll D ≤ Go.Proofs.YtkgjibhbhddckaaDoor.Rows.uptoBulk d := by
    rcases h5 with ⟨e1, e2⟩ | ⟨spp, e1⟩
    · rw [e2]; simp [Go.Proofs.YtkgjibhbhddckaaDoor.Rows.uptoBulkAll]
    · dsimp only at e1
      rw [e1]
      simp only [Go.Proofs.YtkgjibhbhddckaaDoor.Rows.uptoBulk]; omega
  have key : ∀ cs ∈ Cs, ∃ x : Ev, cs = evC x := by
    intro cs hcs
    obtain ⟨i, hi⟩ := List.getElem?_of_mem hcs
    obtain ⟨g1, d', p', g3, g2⟩ := h4 i cs hi
    obtain ⟨xs, m, _, gx, _, g5, g6⟩ := DataW.trod_struct Tryd.underlying35 g2
    match cs, g1 with
    | [c0, c1, c2], _ =>
      have f0 := g6 0 _ rfl
      have f1 := g6 1 _ rfl
      have f2 := g6 2 _ rfl
      have l6 : xs.length = 3 := g5
      rw [List.getElem?_eq_getElem (by omega)] at f0 f1 f2
      obtain ⟨z0, rfl, w0⟩ := trod_int (k := .i64) (by kernel_rfl) f0
      obtain ⟨z1, rfl, w1⟩ := trod_int (k := .i64) (by kernel_rfl) f1
      obtain ⟨z2, rfl, w2⟩ := trod_int (k := .i64) (by kernel_rfl) f2
      exact ⟨⟨z0, z1, z2⟩, rfl⟩
  obtain ⟨xs, hxs⟩ := flattenS (f := evC) Cs key
  have hl : xs.length = len := by rw [← h1, hxs]; simp
  refine ⟨xs, ⟨?_, hl, hcap⟩, ?_⟩
  · rw [hxs] at h3
    unfold evsC
    rw [List.flatMap_def]; exact h3
  · rw [hl, ← h2]
    have := bulkS_lenA D
    omega
/-- a shape -/
theorem rd_shp {cs : Array Value} (h : DataW.trod enc Tryd.prog w base sp held fuel 29 (Value.agg cs).cells.toList = some (d, ps)) :
    ∃ (s : Shp) (pad : Option Addr) (cap : Nat), (cs = ⟨shC s pad cap⟩ ∧ ReadS w pad (s.pa.map I)) ∧ s.pa.length ≤ Go.Proofs.YtkgjibhbhddckaaDoor.Rows.uptoBulk d := by
  have h : DataW.trod enc Tryd.prog w base sp held fuel 29 cs.toList = some (d, ps) := h
  obtain ⟨xs, m, _, gx, g1, g5, g6⟩ := DataW.trod_struct Tryd.underlying29 h
  have gd := congrArg Prod.fst gx
  dsimp only at gd
  obtain ⟨cs⟩ := cs
  have g1 : cs.length = 5 := g1
  match cs, g1 with
  | [c0, c1, c2, c3, c4], _ =>
    have f0 := g6 0 _ rfl
    have f1 := g6 1 _ rfl
    have f2 := g6 2 _ rfl
    have f3 := g6 3 _ rfl
    have f4 := g6 4 _ rfl
    have l6 : xs.length = 5 := g5
    rw [List.getElem?_eq_getElem (by omega)] at f0 f1 f2 f3 f4
    obtain ⟨z0, rfl, w0⟩ := trod_int (k := .i64) (by kernel_rfl) f0
    obtain ⟨z1, rfl, w1⟩ := trod_int (k := .i64) (by kernel_rfl) f1
    obtain ⟨z2, rfl, w2⟩ := trod_int (k := .i64) (by kernel_rfl) f2
    obtain ⟨z3, rfl, w3⟩ := trod_int (k := .i64) (by kernel_rfl) f3
    obtain ⟨a4, c4, z4, rfl, r4, q4, s4⟩ := rdS_row Tryd.underlying22 Tryd.underlying3 (by kernel_rfl) f4
    have m4 : Go.Proofs.YtkgjibhbhddckaaDoor.Rows.uptoBulk xs[4].1 ≤ Go.Proofs.YtkgjibhbhddckaaDoor.Rows.uptoBulkAll (xs.map (·.1)) := bulkS_mem (List.mem_map.2 ⟨_, List.getElem_mem _, rfl⟩)
    refine ⟨⟨z0, z1, z2, z3, z4⟩, a4, c4, ⟨rfl, r4⟩, ?_⟩
    rw [gd]
    simp only [Go.Proofs.YtkgjibhbhddckaaDoor.Rows.uptoBulk]
    omega
end
end Go.Vc
