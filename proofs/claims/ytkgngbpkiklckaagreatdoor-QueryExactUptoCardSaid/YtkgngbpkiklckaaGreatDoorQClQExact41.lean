/- Parts of a proof. -/
import Derived.Test.YtkgngbpkiklckaaGreatDoorQClQExact40
set_option maxHeartbeats 12800000
namespace Go.Vc
open Go Go.Proofs
set_option maxRecDepth 20000
section
variable {w : World}
theorem restE_ok {x : PR} {s : TS} {word : List UInt8} (h : isE (Ju2 x) word = true) (hx : Ju2 x = .ok s) : ∃ t, x = .ok (t, s) := by
 cases x with
 | error q => cases hx
 | ok z => obtain ⟨t, s'⟩ := z; cases hx; exact ⟨t, rfl⟩
theorem row_next {g : RdG} {lvl mm : Nat} {t : QT} {i1 i4 : Nat} {op c4 f4 : Int} {l1 l4 l5 : List QN} (hrow : Jj6 lvl (g.st i1) = some op) (hR : Rel g (adv (g.st i1) >>= rd mm (Ji6 lvl)) i4 c4 f4 l4) (hl5 : l5 = Ji5 op 0 [] (l1 ++ l4)) (hl1 : l1 = t.rows) :
  Rel g ((adv (g.st i1) >>= rd mm (Ji6 lvl)) >>= fun y => .ok (.n2 op 0 [] t y.1, y.2)) i4 c4 f4 l5 ∧ rw (mm + 1) lvl t (g.st i1) = (((adv (g.st i1) >>= rd mm (Ji6 lvl)) >>= fun y => .ok (.n2 op 0 [] t y.1, y.2)) >>= fun z => rw mm lvl z.1 z.2) := by
 refine ⟨Qo2 hR hl5 hl1, ?_⟩
 rw [Qg7 hrow]
 cases adv (g.st i1) with
 | error q => rfl
 | ok s' =>
  show (rd mm (Ji6 lvl) s' >>= _) = ((rd mm (Ji6 lvl) s' >>= _) >>= _)
  cases rd mm (Ji6 lvl) s' <;> rfl
theorem sum30_ok {m : Nat} (ih : ∀ m', m' ≤ m → Rd30 m' 4 191) : Rd30 (m + 1) 3 178 := by
 intro w g i c fa r h hr hn
 have hle := h.le
 have hln := h.len
 have hrd : (r >>= rd (m + 1) 3) = (r >>= rd m 4) >>= fun y => rw m 3 y.1 y.2 := by
  cases r with
  | error x => rfl
  | ok s => exact rd_row (lvl := 3) dE
 refine Ze Tryz.call178 Tryz.func178 ?_
 refine zS ?_
 refine Zc (ih m lR h hr oM) ?_
 rintro v w1 ⟨k1, i1, c1, f1, rfl, hk1, hn1, h1, hi1, hl1, hR1, kk1⟩
 rw [hrd]
 have hp := h.hdr.lt
 refine zS ?_
 refine Jb4 (α := KQ × Nat × Int × Int × Nat × PR) [0, 3] (fun y => [ptr g.p, kqV y.1]) (fun y W => RdA W g y.2.1 y.2.2.1 y.2.2.2.1 ∧ Jl4 W y.1 ∧ (∀ b, b ∈ Ja1 y.1.ad → w.heap.size ≤ b) ∧ i ≤ y.2.1 ∧ y.1.l.length ≤ y.2.1 - i ∧ Rel g y.2.2.2.2.2 y.2.1 y.2.2.1 y.2.2.2.1 y.1.l ∧ Kp [g.p] w W ∧ y.2.2.2.2.1 ≤ m ∧ ((r >>= rd m 4) >>= fun y => rw m 3 y.1 y.2) = (y.2.2.2.2.2 >>= fun z => rw y.2.2.2.2.1 3 z.1 z.2) ∧ ∀ z, y.2.2.2.2.2 = .ok z → 10 * (g.ts.length - y.2.1) + 16 ≤ y.2.2.2.2.1 + 3) (fun y => g.ts.length - y.2.1) (k1, i1, c1, f1, m, r >>= rd m 4) rfl ⟨h1, hk1, hn1, hi1, hl1, hR1, kk1, lR, rfl, fun z hz => by
  dsimp only at hz
  rw [hz] at hR1
  have := Jw8 (s := z.2) (t := z.1) hR1
  have := h1.le
  dsimp only; omega⟩ ?_
 clear hR1 hk1 hn1 h1 hi1 hl1 kk1
 rintro ⟨k1, i1, c1, f1, mm, x⟩ e W ⟨h1, hk1, hn1, hi1, hl1, hR1, kk1, hmm, heq, hfu⟩
 dsimp only at h1 hk1 hn1 hi1 hl1 hR1 kk1 hmm heq hfu ⊢
 have hle1 := h1.le
 rw [heq]
 refine zS ?_
 refine Zc (Jk8 h1 hR1.pre [43]) ?_
 rintro v w2 ⟨rfl, k2⟩
 cases his : isE (Ju2 x) [43] with
 | true =>
  obtain ⟨rfl, hx, tk, htk, htt, _⟩ := Qb3 hR1.pre hle1 his
  obtain ⟨t, rfl⟩ := restE_ok his hx
  have hfu := hfu _ rfl
  have hi := (List.getElem?_eq_some_iff.1 htk).1
  obtain ⟨mm, rfl⟩ : ∃ q, mm = q + 1 := ⟨mm - 1, oM⟩
  have hrow : Jj6 3 (g.st i1) = some 5 := by
   have his : (g.st i1).is [43] = true := his
   show (if (g.st i1).is [43] = true then some (5 : Int) else if (g.st i1).is [45] = true then some 6 else none) = some 5
   rw [if_pos his]
  have hno : isE (Ju2 (.ok (t, g.st i1))) [45] = false := by
   show (g.st i1).is [45] = false
   rw [Jh8 htk]
   show (decide (tk.text = [45]) && _) = false
   rw [htt]; rfl
  refine zS ?_
  refine Zc (Jk8 (h1.kp0 k2) hR1.pre [45]) ?_
  rintro v w2b ⟨rfl, k2b⟩
  have k2 := k2.trans k2b
  clear k2b
  rw [hno]
  refine zS ?_
  have h2 := h1.kp0 k2
  refine zL h2.hdr ?_
  refine Zt (b := g.p) (off := 1) (v := I ((i1 : Int) + 1)) rfl h2.hdr sI ?_
  intro w3 hu3
  obtain ⟨h3, k3⟩ := Jl9 h2 hi hu3
  clear hu3
  refine zS ?_
  refine Zc (ih mm oM h3 (Jk5 htk rfl) oM) ?_
  rintro v w4 ⟨k4, i4, c4, f4, rfl, hk4, hn4, h4, hi4, hl4, hR4, kk4⟩
  have hle4 := h4.le
  have y2 := k2.size
  have y3 := k3.size
  have y1 := kk1.size
  have hk14 : Jl4 w4 k1 := ((hk1.kp k2 sI).kp k3 (fun b hb q => by have := hn1 b hb; have := List.mem_singleton.1 q; omega)).kp kk4 (fun b hb q => by have := hn1 b hb; have := List.mem_singleton.1 q; omega)
  refine Zc (Jk2 5 hk14 hk4 oM) ?_
  rintro v w5 ⟨k5, rfl, hl5, hk5, kk5, hn5⟩
  have y4 := kk4.size
  have hlen5 : k5.l.length = 1 + (k1.l.length + k4.l.length) := by rw [hl5]; simp [Ji5]; omega
  obtain ⟨hrel, hre⟩ := row_next hrow hR4 hl5 hR1.2
  refine zS ?_
  refine ⟨(k5, i4, c4, f4, mm, (adv (g.st i1) >>= rd mm 4) >>= fun y => .ok (.n2 5 0 [] t y.1, y.2)), rfl, ⟨h4.kp0 kk5, hk5, fun b hb => by have := hn5 b hb; omega, by dsimp only; omega, by dsimp only; omega, hrel, (((kk1.into k2 sI).trans k3).trans kk4).into kk5 sI, by dsimp only; omega, hre, fun z hz => ?_⟩, by dsimp only; omega⟩
  dsimp only at hz ⊢
  cases hq : (adv (g.st i1) >>= rd mm 4) with
  | error q => rw [hq] at hz; cases hz
  | ok u =>
   rw [hq] at hR4
   have := Jw8 (s := u.2) (t := u.1) hR4
   omega
 | false =>
 refine zS ?_
 refine Zc (Jk8 (h1.kp0 k2) hR1.pre [45]) ?_
 rintro v w2b ⟨rfl, k2b⟩
 have k2 := k2.trans k2b
 clear k2b
 have his0 := his
 cases his : isE (Ju2 x) [45] with
 | true =>
  obtain ⟨rfl, hx, tk, htk, htt, _⟩ := Qb3 hR1.pre hle1 his
  obtain ⟨t, rfl⟩ := restE_ok his hx
  have hfu := hfu _ rfl
  have hi := (List.getElem?_eq_some_iff.1 htk).1
  obtain ⟨mm, rfl⟩ : ∃ q, mm = q + 1 := ⟨mm - 1, oM⟩
  have hrow : Jj6 3 (g.st i1) = some 6 := by
   have his : (g.st i1).is [45] = true := his
   have his0 : (g.st i1).is [43] = false := his0
   show (if (g.st i1).is [43] = true then some (5 : Int) else if (g.st i1).is [45] = true then some 6 else none) = some 6
   rw [if_neg (by rw [his0]; simp), if_pos his]
  refine zS ?_
  refine Zc (Jk8 (h1.kp0 k2) hR1.pre [45]) ?_
  rintro v w2b ⟨rfl, k2b⟩
  have k2 := k2.trans k2b
  clear k2b
  rw [his]
  refine zS ?_
  have h2 := h1.kp0 k2
  refine zL h2.hdr ?_
  refine Zt (b := g.p) (off := 1) (v := I ((i1 : Int) + 1)) rfl h2.hdr sI ?_
  intro w3 hu3
  obtain ⟨h3, k3⟩ := Jl9 h2 hi hu3
  clear hu3
  refine zS ?_
  refine Zc (ih mm oM h3 (Jk5 htk rfl) oM) ?_
  rintro v w4 ⟨k4, i4, c4, f4, rfl, hk4, hn4, h4, hi4, hl4, hR4, kk4⟩
  have hle4 := h4.le
  have y2 := k2.size
  have y3 := k3.size
  have y1 := kk1.size
  have hk14 : Jl4 w4 k1 := ((hk1.kp k2 sI).kp k3 (fun b hb q => by have := hn1 b hb; have := List.mem_singleton.1 q; omega)).kp kk4 (fun b hb q => by have := hn1 b hb; have := List.mem_singleton.1 q; omega)
  refine Zc (Jk2 6 hk14 hk4 oM) ?_
  rintro v w5 ⟨k5, rfl, hl5, hk5, kk5, hn5⟩
  have y4 := kk4.size
  have hlen5 : k5.l.length = 1 + (k1.l.length + k4.l.length) := by rw [hl5]; simp [Ji5]; omega
  obtain ⟨hrel, hre⟩ := row_next hrow hR4 hl5 hR1.2
  refine zS ?_
  refine ⟨(k5, i4, c4, f4, mm, (adv (g.st i1) >>= rd mm 4) >>= fun y => .ok (.n2 6 0 [] t y.1, y.2)), rfl, ⟨h4.kp0 kk5, hk5, fun b hb => by have := hn5 b hb; omega, by dsimp only; omega, by dsimp only; omega, hrel, (((kk1.into k2 sI).trans k3).trans kk4).into kk5 sI, by dsimp only; omega, hre, fun z hz => ?_⟩, by dsimp only; omega⟩
  dsimp only at hz ⊢
  cases hq : (adv (g.st i1) >>= rd mm 4) with
  | error q => rw [hq] at hz; cases hz
  | ok u =>
   rw [hq] at hR4
   have := Jw8 (s := u.2) (t := u.1) hR4
   omega
 | false =>
  refine zS ?_
  refine ⟨_, rfl, k1, i1, c1, f1, rfl, hk1.kp k2 sI, hn1, h1.kp0 k2, hi1, hl1, ?_, kk1.into k2 sI⟩
  cases x with
  | error q => exact hR1
  | ok z =>
   obtain ⟨t, s⟩ := z
   have hfu := hfu _ rfl
   obtain ⟨mm, rfl⟩ : ∃ q, mm = q + 1 := ⟨mm - 1, oM⟩
   have his : s.is [45] = false := his
   have his0 : s.is [43] = false := his0
   have hrow : Jj6 3 s = none := by
    show (if s.is [43] = true then some (5 : Int) else if s.is [45] = true then some 6 else none) = none
    rw [if_neg (by rw [his0]; simp), if_neg (by rw [his]; simp)]
   show Rel g (rw (mm + 1) 3 t s) _ _ _ _
   rw [Jz4 hrow]; exact hR1
def cmpE (r : Except (Int × Int) TS) : Int := match r with
 | .ok s => ((Jk1 s).getD 0 : Nat)
 | .error _ => 0
theorem compare30_ret {g : RdG} {i : Nat} {c f : Int} (h : RdA w g i c f) {r : Except (Int × Int) TS} (hr : PreS g i c f r) : Ret Tryz.prog 179 [ptr g.p] w (fun v w' => v = .int .i64 (cmpE r) ∧ Kp [] w w') := by
 refine Ze Tryz.call179 Tryz.func179 ?_
 refine zS ?_
 refine Jb4 (α := Nat) [0, 3] (fun j => [ptr g.p, I j]) (fun j W => 11 ≤ j ∧ j ≤ 17 ∧ Kp [] w W ∧ ∀ k, 11 ≤ k → k < j → isE r (Ja3 k) = false) (fun j => 17 - j) 11 rfl ⟨oM, oM, Kp.refl _ _, fun k h h2 => oM⟩ ?_
 rintro j e W ⟨hj1, hj2, kW, hno⟩
 refine zS ?_
 refine r_if rfl (fun hc => ?_) (fun hc => ?_)
 ·refine zS ?_
  refine Zc (Jl0 (j : Int)) ?_
  rintro v w1 ⟨rfl, k1⟩
  refine zS ?_
  refine Za ?_
  intro b4 w2 e4 hu2
  refine Zs (b := b4) (cs := rtC (rtO j)) rfl hu2.blk lR rfl (by simp [Value.oneCell', rtC]) ?_
  intro w3 hu3
  have k13 : Kp [] w1 w3 := (hu2.new oM).since (hu3.kp [b4] (.inl sI)) (by simp; omega)
  have g4 : Blk w3 b4 [S (Ja3 j), I (rtO j).kids, I (rtO j).of_, I (rtO j).ans, .bool (rtO j).binds] 154 := by
   have := (Jr5 (op := (j : Int)) oM oM).2.2.2.2
   rw [show ((j : Int)).toNat = j by omega] at this
   rw [← this]; exact hu3.blk
  have k0 := (kW.trans k1).trans k13
  clear hu2 hu3
  refine zL g4 ?_
  refine Zc (Jk8 (h.kp0 k0) hr (Ja3 j)) ?_
  rintro v w4 ⟨rfl, k4⟩
  cases his : isE r (Ja3 j) with
  | true =>
   have hv : cmpE r = j := by
    cases r with
    | error x => cases his
    | ok s =>
     show ((((Jk1 s).getD 0 : Nat)) : Int) = j
     rw [cmp_some (k := j) hj1 oM his (fun k h h2 => hno k h h2)]; rfl
   rw [hv]
   refine zS ?_
   exact ⟨_, rfl, rfl, k0.trans k4⟩
  | false =>
   refine zS ?_
   refine ⟨j + 1, rfl, ⟨oM, oM, k0.trans k4, fun k h h2 => ?_⟩, oM⟩
   by_cases hk : k = j
   ·subst hk; exact his
   ·exact hno k h oM
 ·have hv : cmpE r = 0 := by
   cases r with
   | error x => rfl
   | ok s =>
    show ((((Jk1 s).getD 0 : Nat)) : Int) = 0
    have : Jk1 s = none := by
     unfold Jk1
     rw [List.find?_eq_none]
     intro k hk
     have hk2 : 11 ≤ k ∧ k ≤ 16 := by simp at hk; omega
     rw [show s.is (Ja3 k) = false from hno k hk2.1 oM]; simp
    rw [this]; rfl
  rw [hv]
  refine zS ?_
  exact ⟨_, rfl, rfl, kW⟩
end
section
variable {w : World}
theorem Qn6 {g : RdG} {x : PR} {i : Nat} {c f op : Int} {name : List UInt8} {la l : List QN} (h : Rel g x i c f la) (hl : l = Ji5 op 0 name la) : Rel g (x >>= fun y => .ok (.n1 op 0 name y.1, y.2)) i c f l := by
 cases x with
 | error e => exact h
 | ok y => exact ⟨h.1, by rw [hl, rows_n1, h.2]⟩
theorem cmp_is {s : TS} {k : Nat} (h : Jk1 s = some k) : s.is (Ja3 k) = true ∧ 11 ≤ k := by
 unfold Jk1 at h
 have h1 := List.find?_some h
 have h2 := List.mem_of_find?_eq_some h
 exact ⟨h1, by simp at h2; omega⟩
theorem simple30_ok {m : Nat} (ih2 : Rd30 m 2 147) (ih3 : Rd30 m 3 178) : Rd30 (m + 1) 2 147 := by
 intro w g i c fa r h hr hn
 have hle := h.le
 have hln := h.len
 have hp := h.hdr.lt
 refine Ze Tryz.call147 Tryz.func147 ?_
 refine zS ?_
 refine Zc (Jk8 h hr [110, 111, 116]) ?_
 rintro v w1 ⟨rfl, k1⟩
 have y1 := k1.size
 cases his : isE r [110, 111, 116] with
 | true =>
  obtain ⟨rfl, rfl, tk, htk, _, _⟩ := Qb3 hr hle his
  have hi := (List.getElem?_eq_some_iff.1 htk).1
  have h2 := h.kp0 k1
  refine zL h2.hdr ?_
  refine Zt (b := g.p) (off := 1) (v := I ((i : Int) + 1)) rfl h2.hdr sI ?_
  intro w3 hu3
  obtain ⟨h3, k3⟩ := Jl9 h2 hi hu3
  clear hu3
  refine zS ?_
  refine Zc (ih2 h3 (Jk5 htk rfl) oM) ?_
  rintro v w4 ⟨k4, i4, c4, f4, rfl, hk4, hn4, h4, hi4, hl4, hR4, kk4⟩
  have y3 := k3.size
  have hle4 := h4.le
  refine Zc (Jh6 17 [] hk4 oM) ?_
  rintro v w5 ⟨k5, rfl, hl5, hk5, kk5, hn5⟩
  have y4 := kk4.size
  have hlen5 : k5.l.length = 1 + k4.l.length := by rw [hl5]; simp [Ji5]; omega
  refine zS ?_
  refine ⟨_, rfl, k5, i4, c4, f4, rfl, hk5, fun b hb => by have := hn5 b hb; omega, h4.kp0 kk5, oM, oM, ?_, ((((k1.mono sI).trans k3).trans kk4).into kk5 sI)⟩
  show Rel g (rd (m + 1) 2 (g.st i)) _ _ _ _
  rw [Jx0, if_pos (show (g.st i).is (Ja3 17) = true from his)]
  have := Qn6 (op := 17) (name := []) hR4 hl5
  cases hq : adv (g.st i) with
  | error q => rw [hq] at this; exact this
  | ok s' => rw [hq] at this; exact this
 | false =>
  refine zS ?_
  refine Zc (ih3 (h.kp0 k1) hr oM) ?_
  rintro v w2 ⟨k2, i2, c2, f2, rfl, hk2, hn2, h2, hi2, hl2, hR2, kk2⟩
  have hle2 := h2.le
  have y2 := kk2.size
  refine zS ?_
  refine Zc (compare30_ret h2 hR2.pre) ?_
  rintro v w3 ⟨rfl, k3⟩
  have y3 := k3.size
  refine zS ?_
  refine r_if rfl (fun hz => ?_) (fun hz => ?_)
  ·refine zS ?_
   refine ⟨_, rfl, k2, i2, c2, f2, rfl, hk2.kp k3 sI, fun b hb => by have := hn2 b hb; omega, h2.kp0 k3, hi2, hl2, ?_, ((k1.mono sI).trans kk2).into k3 sI⟩
   cases r with
   | error q => exact hR2
   | ok s =>
    have his : s.is (Ja3 17) = false := his
    show Rel g (rd (m + 1) 2 s) _ _ _ _
    rw [Jx0, if_neg (by rw [his]; simp)]
    have hR2 : Rel g (rd m 3 s) i2 c2 f2 k2.l := hR2
    have hz : cmpE (Ju2 (rd m 3 s)) = 0 := hz
    cases hx : rd m 3 s with
    | error q => rw [hx] at hR2; exact hR2
    | ok z =>
     rw [hx] at hR2 hz
     have hc : Jk1 z.2 = none := by
      cases hq : Jk1 z.2 with
      | none => rfl
      | some k =>
       have hz : (((Jk1 z.2).getD 0 : Nat) : Int) = 0 := hz
       rw [hq] at hz
       have := (cmp_is hq).2
       simp at hz; omega
     show Rel g (match Jk1 z.2 with | some op => _ | none => _) _ _ _ _
     rw [hc]; exact hR2
  ·obtain ⟨s, rfl⟩ : ∃ s, r = .ok s := by
    cases r with
    | error q => exact absurd rfl hz
    | ok s => exact ⟨s, rfl⟩
   have hR2 : Rel g (rd m 3 s) i2 c2 f2 k2.l := hR2
   have hz : ¬ cmpE (Ju2 (rd m 3 s)) = 0 := hz
   have hpre2 : PreS g i2 c2 f2 (Ju2 (rd m 3 s)) := hR2.pre
   have his : s.is (Ja3 17) = false := his
   cases hx : rd m 3 s with
   | error q => rw [hx] at hz; exact absurd rfl hz
   | ok z =>
    obtain ⟨t, s2⟩ := z
    rw [hx] at hR2 hz hpre2
    obtain ⟨op, hop⟩ : ∃ op, Jk1 s2 = some op := by
     cases hq : Jk1 s2 with
     | none => exact absurd (show (((Jk1 s2).getD 0 : Nat) : Int) = 0 by rw [hq]; rfl) hz
     | some op => exact ⟨op, rfl⟩
    rw [show cmpE (Ju2 (Except.ok s >>= rd m 3)) = (op : Int) from by
     show cmpE (Ju2 (rd m 3 s)) = _
     rw [hx]
     show (((Jk1 s2).getD 0 : Nat) : Int) = op
     rw [hop]; rfl]
    obtain ⟨rfl, hsx, tk, htk, _, _⟩ := Qb3 hpre2 hle2 (word := Ja3 op) (show s2.is (Ja3 op) = true from (cmp_is hop).1)
    have hs2 : s2 = g.st i2 := Except.ok.inj hsx
    subst hs2
    have hi := (List.getElem?_eq_some_iff.1 htk).1
    have h4 := h2.kp0 k3
    refine zL h4.hdr ?_
    refine Zt (b := g.p) (off := 1) (v := I ((i2 : Int) + 1)) rfl h4.hdr sI ?_
    intro w5 hu5
    obtain ⟨h5, k5⟩ := Jl9 h4 hi hu5
    clear hu5
    refine zS ?_
    refine Zc (ih3 h5 (Jk5 htk rfl) oM) ?_
    rintro v w6 ⟨k6, i6, c6, f6, rfl, hk6, hn6, h6, hi6, hl6, hR6, kk6⟩
    have hle6 := h6.le
    have y5 := k5.size
    have y6 := kk6.size
    have hk26 : Jl4 w6 k2 := ((hk2.kp k3 sI).kp k5 (fun b hb q => by have := hn2 b hb; have := List.mem_singleton.1 q; omega)).kp kk6 (fun b hb q => by have := hn2 b hb; have := List.mem_singleton.1 q; omega)
    refine Zc (Jk2 op hk26 hk6 oM) ?_
    rintro v w7 ⟨k7, rfl, hl7, hk7, kk7, hn7⟩
    have hlen7 : k7.l.length = 1 + (k2.l.length + k6.l.length) := by rw [hl7]; simp [Ji5]; omega
    refine zS ?_
    refine ⟨_, rfl, k7, i6, c6, f6, rfl, hk7, fun b hb => by have := hn7 b hb; omega, h6.kp0 kk7, oM, oM, ?_, (((((k1.mono sI).trans kk2).into k3 sI).trans k5).trans kk6).into kk7 sI⟩
    show Rel g (rd (m + 1) 2 s) _ _ _ _
    rw [Jx0, if_neg (by rw [his]; simp), hx]
    show Rel g (match Jk1 (g.st i2) with | some op => _ | none => _) _ _ _ _
    rw [hop]
    have := Qo2 (op := op) (t := t) hR6 hl7 hR2.2
    cases hq : adv (g.st i2) with
    | error q => rw [hq] at this; exact this
    | ok s' => rw [hq] at this; exact this
end
section
variable {w : World}
theorem rel_mark {g : RdG} {x : PR} {i i' : Nat} {c f c' f' : Int} {l : List QN} {wd : List UInt8} (h : Rel g x i c f l) (hp : PreS g i' c' f' (Ju2 x >>= fun s => Jc4 s wd)) : Rel g (x >>= fun y => Jc4 y.2 wd >>= fun s => .ok (y.1, s)) i' c' f' l := by
 cases x with
 | error e => exact hp
 | ok y =>
  obtain ⟨t, s⟩ := y
  have hp : PreS g i' c' f' (Jc4 s wd) := hp
  show Rel g (Jc4 s wd >>= _) i' c' f' l
  cases hq : Jc4 s wd with
  | error e => rw [hq] at hp; exact hp
  | ok s' => rw [hq] at hp; exact ⟨hp, h.2⟩
abbrev AnsW (g : RdG) (i : Nat) (x : PR) (w : World) (v : Value) (w' : World) : Prop := ∃ (k : KQ) (i' : Nat) (c' fa' : Int), v = kqV k ∧ Jl4 w' k ∧ (∀ b, b ∈ Ja1 k.ad → w.heap.size ≤ b) ∧ RdA w' g i' c' fa' ∧ i ≤ i' ∧ k.l.length ≤ i' - i ∧ Rel g x i' c' fa' k.l ∧ Kp [g.p] w w'
theorem call30_ret {m : Nat} (ih : Rd30 m 0 62) {g : RdG} {i : Nat} {f : Int} {tk : Tok} {op : Nat} (h : RdA w g i 0 f) (htk : g.ts[i]? = some tk) (hn : 10 * (g.ts.length - i) ≤ m + 3) (h3 : op ≠ 3) (hb : Jb6 op = false) (hc : Jm0 op = true) :
  Ret Tryz.prog 210 [ptr g.p, I op, I (Jc7 op : Nat)] w (AnsW g i (wd (m + 1) op (g.st i)) w) := by
 have hle := h.le
 have hln := h.len
 have hp := h.hdr.lt
 have hi := (List.getElem?_eq_some_iff.1 htk).1
 have hpre := Jk5 (c := 0) (f := f) htk rfl
 rw [wd_call h3 hb hc]
 generalize adv (g.st i) = r1 at hpre ⊢
 refine Ze Tryz.call210 Tryz.func210 ?_
 refine zL h.hdr ?_
 refine Zt (b := g.p) (off := 1) (v := I ((i : Int) + 1)) rfl h.hdr sI ?_
 intro w1 hu1
 obtain ⟨h1, k1⟩ := Jl9 h hi hu1
 have y1 := k1.size
 clear hu1
 refine zS ?_
 refine Zc (Ji7 h1 hpre [40]) ?_
 rintro v w2 ⟨rfl, i2, c2, f2, h2, hi2, hp2, k2⟩
 have y2 := k2.size
 have hle2 := h2.le
 refine zS ?_
 refine Zc (ih h2 hp2 oM) ?_
 rintro v w3 ⟨k3, i3, c3, f3, rfl, hk3, hn3, h3', hi3, hl3, hR3, kk3⟩
 have y3 := kk3.size
 have hle3 := h3'.le
 generalize hx : ((r1 >>= fun s => Jc4 s [40]) >>= rd m 0) = x at hR3
 by_cases hk : Jc7 op = 1
 ·rw [hk]
  refine zS ?_
  refine Zc (Ji7 h3' hR3.pre [41]) ?_
  rintro v w4 ⟨rfl, i4, c4, f4, h4, hi4, hp4, k4⟩
  have y4 := k4.size
  have hle4 := h4.le
  have hk34 := hk3.kp k4 (fun b hb q => by have := hn3 b hb; have := List.mem_singleton.1 q; omega)
  refine zS ?_
  refine Zc (Jh6 op [] hk34 oM) ?_
  rintro v w5 ⟨k5, rfl, hl5, hk5, kk5, hn5⟩
  have hlen5 : k5.l.length = 1 + k3.l.length := by rw [hl5]; simp [Ji5]; omega
  refine zS ?_
  refine ⟨_, rfl, k5, i4, c4, f4, rfl, hk5, fun b hb => by have := hn5 b hb; omega, h4.kp0 kk5, oM, oM, ?_, (((k1.trans k2).trans kk3).trans k4).into kk5 sI⟩
  have := Qn6 (op := op) (name := []) (rel_mark hR3 hp4) hl5
  rw [← hx] at this
  cases r1 with
  | error q => exact this
  | ok s1 =>
   show Rel g (Jc4 s1 [40] >>= _) _ _ _ _
   have this : Rel g (((Jc4 s1 [40] >>= rd m 0) >>= _) >>= _) _ _ _ _ := this
   cases hq : Jc4 s1 [40] with
   | error q => rw [hq] at this; exact this
   | ok s2 =>
    rw [hq] at this
    have this : Rel g ((rd m 0 s2 >>= fun y => Jc4 y.2 [41] >>= fun s => .ok (y.1, s)) >>= _) _ _ _ _ := this
    show Rel g (rd m 0 s2 >>= _) _ _ _ _
    cases hq2 : rd m 0 s2 with
    | error q => rw [hq2] at this; exact this
    | ok z =>
     rw [hq2] at this
     have this : Rel g ((Jc4 z.2 [41] >>= fun s => .ok (z.1, s)) >>= _) _ _ _ _ := this
     show Rel g (Jc4 z.2 [41] >>= fun s => .ok (.n1 op 0 [] z.1, s)) _ _ _ _
     cases hq3 : Jc4 z.2 [41] with
     | error q => rw [hq3] at this; exact this
     | ok s3 => rw [hq3] at this; exact this
 ·have hk2 : ¬ ((Jc7 op : Nat) : Int) = 1 := oM
  refine zS ?_
  refine r_no rfl (decide_eq_false hk2) ?_
  refine zS ?_
  refine Zc (Ji7 h3' hR3.pre [44]) ?_
  rintro v w4 ⟨rfl, i4, c4, f4, h4, hi4, hp4, k4⟩
  have y4 := k4.size
  have hle4 := h4.le
  refine zS ?_
  refine Zc (ih h4 hp4 oM) ?_
  rintro v w5 ⟨k5, i5, c5, f5, rfl, hk5, hn5, h5, hi5, hl5, hR5, kk5⟩
  have y5 := kk5.size
  have hle5 := h5.le
  refine zS ?_
  refine Zc (Ji7 h5 hR5.pre [41]) ?_
  rintro v w6 ⟨rfl, i6, c6, f6, h6, hi6, hp6, k6⟩
  have y6 := k6.size
  have hle6 := h6.le
  have far : ∀ {b : Nat}, w.heap.size ≤ b → b ∉ [g.p] := fun hb q => by have := List.mem_singleton.1 q; omega
  have hk36 := ((hk3.kp k4 (fun b hb => far (by have := hn3 b hb; omega))).kp kk5 (fun b hb => far (by have := hn3 b hb; omega))).kp k6 (fun b hb => far (by have := hn3 b hb; omega))
  have hk56 := hk5.kp k6 (fun b hb => far (by have := hn5 b hb; omega))
  refine zS ?_
  refine Zc (Jk2 op hk36 hk56 oM) ?_
  rintro v w7 ⟨k7, rfl, hl7, hk7, kk7, hn7⟩
  have hlen7 : k7.l.length = 1 + (k3.l.length + k5.l.length) := by rw [hl7]; simp [Ji5]; omega
  refine zS ?_
  refine ⟨_, rfl, k7, i6, c6, f6, rfl, hk7, fun b hb => by have := hn7 b hb; omega, h6.kp0 kk7, oM, oM, ?_, (((((k1.trans k2).trans kk3).trans k4).trans kk5).trans k6).into kk7 sI⟩
  have hR6 := rel_mark hR5 hp6
  cases r1 with
  | error q => subst hx; exact hR6
  | ok s1 =>
   show Rel g (Jc4 s1 [40] >>= _) _ _ _ _
   have hx : (Jc4 s1 [40] >>= rd m 0) = x := hx
   cases hq : Jc4 s1 [40] with
   | error q => rw [hq] at hx; subst hx; exact hR6
   | ok s2 =>
    rw [hq] at hx
    have hx : rd m 0 s2 = x := hx
    show Rel g (rd m 0 s2 >>= _) _ _ _ _
    rw [hx]
    cases x with
    | error q => exact hR6
    | ok z =>
     show Rel g (if Jc7 op = 1 then _ else _) _ _ _ _
     rw [if_neg hk]
     have hR6 : Rel g (((Jc4 z.2 [44]) >>= rd m 0) >>= fun y => Jc4 y.2 [41] >>= fun s => .ok (y.1, s)) i6 c6 f6 k5.l := hR6
     cases hq3 : Jc4 z.2 [44] with
     | error q => rw [hq3] at hR6; exact hR6
     | ok s3 =>
      rw [hq3] at hR6
      have := Qo2 (op := op) (t := z.1) hR6 hl7 hR3.2
      have this : Rel g ((rd m 0 s3 >>= fun y => Jc4 y.2 [41] >>= fun s => .ok (y.1, s)) >>= fun y => .ok (.n2 op 0 [] z.1 y.1, y.2)) i6 c6 f6 k7.l := this
      show Rel g (rd m 0 s3 >>= _) _ _ _ _
      cases hq4 : rd m 0 s3 with
      | error q => rw [hq4] at this; exact this
      | ok u =>
       rw [hq4] at this
       have this : Rel g ((Jc4 u.2 [41] >>= fun s => .ok (u.1, s)) >>= _) i6 c6 f6 k7.l := this
       show Rel g (Jc4 u.2 [41] >>= _) _ _ _ _
       cases hq5 : Jc4 u.2 [41] with
       | error q => rw [hq5] at this; exact this
       | ok s5 => rw [hq5] at this; exact this
theorem tkI_one {t : Tok} (h : tkI t = 1) : t.num < 0 := by
 unfold tkI at h
 split at h
 ·omega
 ·rename_i q; omega
theorem tkI_name {t : Tok} (h : ¬ 0 ≤ t.num) (hq : Jc5 t.text = true) : tkI t = 1 := by
 unfold tkI
 rw [if_neg h]
 have h1 : 1 ≤ t.text.length := by
  cases ht : t.text with
  | nil => rw [ht] at hq; cases hq
  | cons c r => simp
 rw [if_pos]
 cases hl : Jb0 (t.text.getD 0 0) with
 | true => rfl
 | false => rw [Qc8 h1 hl] at hq; cases hq
def bindT (m op : Nat) (name : List UInt8) (r : Except (Int × Int) TS) : PR := ((r >>= fun s => Jc4 s [58]) >>= rd m 0) >>= fun x => .ok (.n1 op 0 name x.1, x.2)
theorem bind_of {m op : Nat} (h3 : op ≠ 3) (hb : Jb6 op = true) (s : TS) : wd (m + 1) op s = (adv s >>= fun s => if 0 ≤ s.hd.num ∨ Jc5 s.hd.text = false then .error (301, s.pos) else bindT m op s.hd.text (adv s)) := by
 rw [wd_binds h3 hb]
 cases adv s with
 | error q => rfl
 | ok s1 =>
  show (if _ then _ else _) = (if _ then _ else _)
  split
  ·rfl
  ·unfold bindT
   cases adv s1 with
   | error q => rfl
   | ok s2 =>
    show (Jc4 s2 [58] >>= _) = (((Jc4 s2 [58]) >>= _) >>= _)
    cases Jc4 s2 [58] with
    | error q => rfl
    | ok s3 =>
     show (rd m 0 s3 >>= _) = (rd m 0 s3 >>= _)
     cases rd m 0 s3 <;> rfl
theorem binding30_ret {m : Nat} (ih : Rd30 m 0 62) {g : RdG} {i : Nat} {f : Int} {tk : Tok} {op : Nat} (h : RdA w g i 0 f) (htk : g.ts[i]? = some tk) (htx : ∀ t ∈ g.ts, t.text.length ≤ 4096) (hn : 10 * (g.ts.length - i) ≤ m + 3) (h3 : op ≠ 3) (hb : Jb6 op = true) :
  Ret Tryz.prog 209 [ptr g.p, I op] w (AnsW g i (wd (m + 1) op (g.st i)) w) := by
 have hle := h.le
 have hln := h.len
 have hp := h.hdr.lt
 have hi := (List.getElem?_eq_some_iff.1 htk).1
 have hpre := Jk5 (c := 0) (f := f) htk rfl
 rw [bind_of h3 hb]
 have hadv : i + 1 < g.ts.length → adv (g.st i) = .ok (g.st (i + 1)) := fun q => by
  obtain ⟨u, hu⟩ : ∃ u, g.ts[i + 1]? = some u := ⟨_, List.getElem?_eq_getElem q⟩
  rw [Jh8 htk, Jh8 hu]; rfl
 refine Ze Tryz.call209 Tryz.func209 ?_
 refine zL h.hdr ?_
 refine Zt (b := g.p) (off := 1) (v := I ((i : Int) + 1)) rfl h.hdr sI ?_
 intro w1 hu1
 obtain ⟨h1, k1⟩ := Jl9 h hi hu1
 have y1 := k1.size
 clear hu1
 refine zS ?_
 refine Ja9 ?_
 refine Ja9 ?_
 by_cases hlt : i + 1 < g.ts.length
 ·obtain ⟨u, hu⟩ : ∃ u, g.ts[i + 1]? = some u := ⟨_, List.getElem?_eq_getElem hlt⟩
  have hux := htx u (List.mem_of_getElem? hu)
  obtain ⟨b, off, he, hcell⟩ := Jy1 h1 hu
  have hd := h1.hdr
  rw [he] at hd
  rw [hadv hlt]
  rw [hadv hlt] at hpre
  show Wp _ _ _ _ _ _ _ _ _
  have hh : (g.st (i + 1)).hd = u := by rw [Jh8 hu]; rfl
  have hgoal : (Except.ok (g.st (i + 1)) >>= fun s => if 0 ≤ s.hd.num ∨ Jc5 s.hd.text = false then (.error (301, s.pos) : PR) else bindT m op s.hd.text (adv s)) = if 0 ≤ u.num ∨ Jc5 u.text = false then .error (301, (g.st (i + 1)).pos) else bindT m op u.text (adv (g.st (i + 1))) := by
   show (if _ then _ else _) = _
   rw [hh]
  rw [hgoal]
  refine Jd8 (α := Unit) [0, 1, 5, 50] (fun _ => [ptr g.p, I op, S [], .bool (decide (tkI u = 1) && Jc5 u.text)]) (fun _ W' => Kp [] w1 W') ?_ ?_
  ·refine Jc9 Ja0 kR ?_
   refine zN hd ?_
   rw [decide_eq_true (show ((i + 1 : Nat) : Int) < g.ts.length by omega)]
   refine zN hd ?_
   refine Zq (v := I (tkI u)) rfl (fun w' h' => by rw [Ja2]; exact hcell w' h' 0 _ rfl) ?_
   refine zN hd ?_
   refine Ji0 _ _ rfl rfl rfl (fun h4 => ?_) (fun h4 => ?_)
   ·have h4 : decide (tkI u = 1) = true := h4
    refine zN hd ?_
    refine Zq (v := S u.text) rfl (fun w' h' => by rw [Ja2]; exact hcell w' h' 1 _ rfl) ?_
    refine zN hd ?_
    refine Zk (.bool (Jc5 u.text)) (fun w1 hk => (Jj9 u.text oM).mono fun v w' h => ⟨h.1, hk.trans h.2⟩) Tryz.call18 ?_
    refine zN hd ?_
    intro w' hs'
    exact ⟨(), by rw [h4]; rfl, hs'⟩
   ·have h4 : decide (tkI u = 1) = false := h4
    refine zN hd ?_
    intro w' hs'
    exact ⟨(), by rw [h4]; rfl, hs'⟩
  rintro ⟨⟩ e w2 k2
  have h2 := h1.kp0 k2
  have y2 := k2.size
  refine Je1 rfl (fun hg => ?_) (fun hg => ?_)
  ·rw [Bool.and_eq_true, decide_eq_true_eq] at hg
   rw [if_neg (by rw [hg.2]; simp; exact tkI_one hg.1)]
   have hd2 := h2.hdr
   rw [he] at hd2
   refine Ja9 ?_
   refine Jc9 Ja0 kR ?_
   refine zN hd2 ?_
   refine Zq (v := S u.text) rfl (fun w' h' => by rw [Ja2]; exact hcell w' (k2.trans h') 1 _ rfl) ?_
   refine zN hd2 ?_
   intro w2b k2b
   have k2 := k2.trans k2b
   have h2 := h2.kp0 k2b
   have y2 := k2.size
   refine zL h2.hdr ?_
   refine Zt (b := g.p) (off := 1) (v := I (((i + 1 : Nat) : Int) + 1)) rfl h2.hdr sI ?_
   intro w3 hu3
   obtain ⟨h3', k3⟩ := Jl9 h2 hlt hu3
   have y3 := k3.size
   have hpre3 := Jk5 (c := 0) (f := f) hu rfl
   clear hu3
   refine zS ?_
   refine Zc (Ji7 h3' hpre3 [58]) ?_
   rintro v w4 ⟨rfl, i4, c4, f4, h4, hi4, hp4, k4⟩
   have y4 := k4.size
   have hle4 := h4.le
   refine zS ?_
   refine Zc (ih h4 hp4 oM) ?_
   rintro v w5 ⟨k5, i5, c5, f5, rfl, hk5, hn5, h5, hi5, hl5, hR5, kk5⟩
   have hle5 := h5.le
   have y5 := kk5.size
   refine Zc (Jh6 op u.text hk5 oM) ?_
   rintro v w6 ⟨k6, rfl, hl6, hk6, kk6, hn6⟩
   have hlen6 : k6.l.length = 1 + k5.l.length := by rw [hl6]; simp [Ji5]; omega
   refine zS ?_
   refine ⟨_, rfl, k6, i5, c5, f5, rfl, hk6, fun b hb => by have := hn6 b hb; omega, h5.kp0 kk6, oM, oM, ?_, ((((k1.into k2 sI).trans k3).trans k4).trans kk5).into kk6 sI⟩
   have hfin := Qn6 (op := op) (name := u.text) hR5 hl6
   exact hfin
  ·have hbad : 0 ≤ u.num ∨ Jc5 u.text = false := by
    by_cases q : 0 ≤ u.num
    ·exact .inl q
    ·refine .inr ?_
     rw [Bool.eq_false_iff]
     intro q2
     rw [q2, Bool.and_true, decide_eq_false_iff_not] at hg
     exact hg (tkI_name q q2)
   rw [if_pos hbad]
   refine zS ?_
   refine Zc (Jk6 h2 hpre) ?_
   rintro v w3 ⟨rfl, c3, f3, h3', hpre3, k3⟩
   have y3 := k3.size
   have herr : Ju1 (.ok (g.st (i + 1))) = ((301 : Int), ((g.st (i + 1)).pos : Int)) := by rw [Jh8 hu]; rfl
   rw [herr] at hpre3
   refine zS ?_
   refine Zc (Ji7 h3' hpre3 [58]) ?_
   rintro v w4 ⟨rfl, i4, c4, f4, h4, hi4, hp4, k4⟩
   have y4 := k4.size
   have hle4 := h4.le
   refine zS ?_
   refine Zc (ih h4 hp4 oM) ?_
   rintro v w5 ⟨k5, i5, c5, f5, rfl, hk5, hn5, h5, hi5, hl5, hR5, kk5⟩
   have hle5 := h5.le
   have y5 := kk5.size
   refine Zc (Jh6 op [] hk5 oM) ?_
   rintro v w6 ⟨k6, rfl, hl6, hk6, kk6, hn6⟩
   have hlen6 : k6.l.length = 1 + k5.l.length := by rw [hl6]; simp [Ji5]; omega
   refine zS ?_
   refine ⟨_, rfl, k6, i5, c5, f5, rfl, hk6, fun b hb => by have := hn6 b hb; omega, h5.kp0 kk6, oM, oM, ?_, ((((k1.into k2 sI).trans k3).trans k4).trans kk5).into kk6 sI⟩
   have hfin := Qn6 (op := op) (name := []) hR5 hl6
   exact hfin
 ·have hend : i + 1 = g.ts.length := oM
  refine Jd8 (α := Unit) [0, 1, 5, 50] (fun _ => [ptr g.p, I op, S [], .bool false]) (fun _ W' => Kp [] w1 W') ?_ ?_
  ·refine Jc9 Ja0 kR ?_
   refine zN h1.hdr ?_
   rw [decide_eq_false (show ¬ ((i + 1 : Nat) : Int) < g.ts.length by omega)]
   refine zN h1.hdr ?_
   intro w' hs'
   exact ⟨(), rfl, hs'⟩
  rintro ⟨⟩ e w2 k2
  have h2 := h1.kp0 k2
  have y2 := k2.size
  generalize adv (g.st i) = r1 at hpre ⊢
  have hval : (r1 >>= fun s => if 0 ≤ s.hd.num ∨ Jc5 s.hd.text = false then (.error (301, s.pos) : PR) else bindT m op s.hd.text (adv s)) = .error (Ju1 r1) := by
   cases r1 with
   | error q => rfl
   | ok s =>
    obtain ⟨_, hs, hb'⟩ := hpre
    rw [hend, Jy0] at hs
    unfold RdG.z at hs
    split at hs
    ·subst hs
     exact if_pos (c := 0 ≤ (TS.stop g.en).hd.num ∨ Jc5 (TS.stop g.en).hd.text = false) (e := bindT m op (TS.stop g.en).hd.text (adv (.stop g.en))) (.inr rfl)
    ·subst hs; cases hb'
  rw [hval]
  refine zS ?_
  refine Zc (Jk6 h2 hpre) ?_
  rintro v w3 ⟨rfl, c3, f3, h3', hpre3, k3⟩
  have y3 := k3.size
  generalize Ju1 r1 = er at hpre3 ⊢
  refine zS ?_
  refine Zc (Ji7 h3' hpre3 [58]) ?_
  rintro v w4 ⟨rfl, i4, c4, f4, h4, hi4, hp4, k4⟩
  have y4 := k4.size
  have hle4 := h4.le
  refine zS ?_
  refine Zc (ih h4 hp4 oM) ?_
  rintro v w5 ⟨k5, i5, c5, f5, rfl, hk5, hn5, h5, hi5, hl5, hR5, kk5⟩
  have hle5 := h5.le
  have y5 := kk5.size
  refine Zc (Jh6 op [] hk5 oM) ?_
  rintro v w6 ⟨k6, rfl, hl6, hk6, kk6, hn6⟩
  have hlen6 : k6.l.length = 1 + k5.l.length := by rw [hl6]; simp [Ji5]; omega
  refine zS ?_
  refine ⟨_, rfl, k6, i5, c5, f5, rfl, hk6, fun b hb => by have := hn6 b hb; omega, h5.kp0 kk6, oM, oM, ?_, ((((k1.into k2 sI).trans k3).trans k4).trans kk5).into kk6 sI⟩
  have hfin := Qn6 (op := op) (name := []) hR5 hl6
  exact hfin
end
end Go.Vc
