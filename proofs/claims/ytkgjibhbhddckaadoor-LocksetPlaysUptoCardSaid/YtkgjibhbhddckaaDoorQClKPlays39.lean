/- abreastref23: New, Event, Copy. -/
import Derived.Test.YtkgjibhbhddckaaDoorQClKPlays38
namespace Go.Vc
open Go Go.Proofs
set_option maxRecDepth 10000
variable {w : World}
/-- a frame by a class of blocks, as one by a list -/
theorem Kq.kp {S : Nat → Prop} {w w' : World} (h : Kq S w w') : ∃ L, Kp L w w' ∧ ∀ b, b ∈ L → S b := by
  classical
  refine ⟨(List.range w.heap.size).filter fun b => decide (S b), ⟨h.os, h.tape, h.output, h.size, fun k hk hn => h.at_ k hk fun hs => hn ?_⟩, fun b hb => ?_⟩
  · rw [List.mem_filter]; exact ⟨List.mem_range.2 hk, by simpa using hs⟩
  · simpa using (List.mem_filter.1 hb).2
structure KTo23 (w : World) (g : K23) (w' : World) (g' : K23) : Prop where
  kq : Kq g.Wr w w'
  new : ∀ b, g'.In b → g.In b ∨ w.heap.size ≤ b
  wr : ∀ b, g'.Wr b → g.Wr b ∨ w.heap.size ≤ b
  p : g'.p = g.p
theorem KTo23.refl (w : World) (g : K23) : KTo23 w g w g := ⟨Kq.refl _ _, fun b hb => .inl hb, fun b hb => .inl hb, rfl⟩
theorem KTo23.trans {w1 w2 : World} {g g1 g2 : K23} (h : KTo23 w g w1 g1) (k : KTo23 w1 g1 w2 g2) : KTo23 w g w2 g2 :=
  ⟨h.kq.trans k.kq h.wr, fun b hb => by
    rcases k.new b hb with q | q
    · exact h.new b q
    · exact .inr (Nat.le_trans h.kq.size q), fun b hb => by
    rcases k.wr b hb with q | q
    · exact h.wr b q
    · exact .inr (Nat.le_trans h.kq.size q), k.p.trans h.p⟩
theorem KTo23.of0 {w' : World} {g : K23} (k : Kp [] w w') : KTo23 w g w' g := ⟨k.kq (by simp), fun b hb => .inl hb, fun b hb => .inl hb, rfl⟩
theorem RG.WF {g : RG} : ∀ b, b ∈ g.W → b ∈ g.F := fun b hb => by
  simp only [RG.W, RG.F, List.mem_cons, List.mem_append] at hb ⊢
  rcases hb with h | h | h | h
  · exact .inl h
  · exact .inr (.inr (.inl h))
  · exact .inr (.inr (.inr (.inl h)))
  · exact .inr (.inr (.inr (.inr h)))
theorem K23.WrIn {g : K23} {b : Nat} (h : g.Wr b) : g.In b := by
  rcases h with h | h | h
  · exact .inl h
  · exact .inr (.inl (RG.WF b h))
  · exact .inr (.inr (.inl h))
section
variable {s : Shp}
set_option maxHeartbeats 1600000 in
theorem rNew23_ret {pad : Option Addr} {cap : Nat} (hr : ReadS w pad (s.pa.map I)) (hl : s.pa.length ≤ 1048576) :
    Ret Tryd.prog 14 [.agg ⟨shC s pad cap⟩] w (fun v w' => (shapeB s = false ∧ v = .tuple #[.pointer none, I 5] ∧ Kp [] w w') ∨
      (shapeB s = true ∧ ∃ g, v = .tuple #[ptr g.p, I 0] ∧ R23 w' g s (newC s) [] ∧ Kp [] w w' ∧ ∀ b, g.In b → w.heap.size ≤ b)) := by
  refine enter Tryd.call14 Tryd.func14 rfl rfl rfl rfl ?_
  (repeat first|refine zA ?_|refine zg ?_)
  refine o_box rfl rfl rfl ?_
  intro bx w1 hbx hu1
  have hB1 : Blk w1 bx (shC s pad cap) 29 := hu1.blk
  have k1 : Kp [] w w1 := hu1.kp [] (.inr (by omega))
  have hr1 := hr.kp k1 (by simp)
  (repeat first|refine zA ?_|refine zg ?_|refine zo rfl rfl trivial ?_|refine zn ?_)
  refine o_loadA (vs := shC s pad cap) rfl (fun j v hv => ?_) rfl rfl rfl rfl rfl rfl ?_
  · rw [Nat.zero_add]; exact hB1.cell hv
  refine o_call (rNew_ret hr1 hl) rfl rfl rfl ?_
  rintro v w2 (⟨hs, rfl, k2⟩ | ⟨hs, rg, rfl, hrg, k2, hn2⟩)
  · (repeat first|refine zA ?_|refine zB ?_|refine zg ?_|refine zo rfl rfl trivial ?_|refine zn ?_|refine zr ?_|refine zt rfl ?_)
    exact ⟨_, rfl, .inl ⟨hs, rfl, k1.trans k2⟩⟩
  · have hB2 := k2.blk (by simp) hB1
    (repeat first|refine zA ?_|refine zB ?_|refine zg ?_|refine zo rfl rfl trivial ?_|refine zn ?_|refine zk ?_|refine zf rfl ?_)
    refine o_load (v := .slice pad s.pa.length cap) rfl hB2 rfl rfl rfl rfl rfl ?_
    refine o_cloneR (s.pa.map I) rfl rfl (hr1.kp k2 (by simp)) (by simp) (fun v hv => by obtain ⟨x, _, rfl⟩ := List.mem_map.1 hv; rfl) rfl rfl rfl (by omega) (by simp only [maxLen]; omega) (by omega) rfl rfl ?_
    intro pad' cap' w3 ho3 k3 hn3
    (repeat refine zo rfl rfl trivial ?_)
    refine o_store (v := .slice pad' s.pa.length cap') (c := none) rfl (k3.blk (by simp) hB2) (by simp) rfl rfl rfl rfl rfl rfl ?_
    intro w4 hu4
    have hB4 : Blk w4 bx (shC s pad' cap') 29 := hu4.blk
    have k4 : Kp [bx] w3 w4 := hu4.kp _ (.inl (by simp))
    (repeat first|refine zA ?_|refine zg ?_|refine zo rfl rfl trivial ?_|refine zn ?_)
    refine o_loadA (vs := shC s pad' cap') rfl (fun j v hv => ?_) rfl rfl rfl rfl rfl rfl ?_
    · rw [Nat.zero_add]; exact hB4.cell hv
    refine o_build (places := [(0, 1), (1, 5), (6, 1), (7, 1)]) [ptr rg.p, I s.th, I s.va, I s.vo, I s.lo, .slice pad' s.pa.length cap', I 0, .slice none 0 0] rfl rfl rfl (by kernel_rfl) (by kernel_rfl) rfl rfl ?_
    refine o_box rfl rfl rfl ?_
    intro kb w5 hkb hu5
    have k5 : Kp [] w4 w5 := hu5.kp [] (.inr (by omega))
    (repeat first|refine zo rfl rfl trivial ?_|refine zn ?_|refine zr ?_)
    have z1 := hu1.lt
    have z2 := k2.size
    have z3 := k3.size
    have z4 := k4.size
    have hlt := hrg.toRM.lt
    have k25 : Kp [bx] w2 w5 := ((k3.mono (by simp)).trans k4).trans (k5.mono (by simp))
    have hrg5 := hrg.kp k25 (fun b hb hb2 => by have := hn2 b hb; simp at hb2; omega)
    refine ⟨_, rfl, .inr ⟨hs, ⟨kb, rg, pad', cap', none, 0, []⟩, rfl, ⟨⟨hu5.blk, hrg5, ownS_nil _ _ _, rfl, fun x hx => by simp at hx, fun (hb : kb ∈ rg.F) => by have := hlt _ hb; omega, by simp [blkOf], by simp [agB], by simp [blkOf], by simp [agB]⟩, Nat.zero_le _⟩, (k1.trans k2).since k25 (by simp; omega), fun b hb => ?_⟩⟩
    rcases hb with hb | hb | hb | hb
    · have hb : b = kb := hb
      omega
    · have := hn2 b hb; omega
    · simp [blkOf] at hb
    · simp [agB] at hb
variable {g : K23} {c : Ck} {A : List AccR}
def stepR (s : Shp) (c : Ck) (A : List AccR) (e : Ev) : List AccR := if e.k = 1 ∨ e.k = 2 then A ++ [⟨c.n, e, heldR s c e.t⟩] else A
set_option maxHeartbeats 6400000 in
theorem rEvent_ret (h : R23 w g s c A) (hn : c.n ≤ 2199023255552) (x : Ev) : Ret Tryd.prog 16 [ptr g.p, .agg ⟨evC x⟩] w (fun v w' => (canB s c x = true ∧ v = I 0 ∧ ∃ g', R23 w' g' s (nextC s c x) (stepR s c A x) ∧ KTo23 w g w' g') ∨ (canB s c x = false ∧ v = I 6 ∧ Kp [] w w')) := by
  have hal := h.al
  have hlt := h.lt
  refine enter Tryd.call16 Tryd.func16 rfl rfl rfl rfl ?_
  (repeat first|refine zA ?_|refine zg ?_)
  refine o_box rfl rfl rfl ?_
  intro bx w1 hbx hu1
  have hB1 : Blk w1 bx (evC x) 35 := hu1.blk
  have k1 : Kp [] w w1 := hu1.kp [] (.inr (by omega))
  have h1 := h.kp0 k1
  (repeat first|refine zA ?_|refine zB ?_|refine zg ?_|refine zo rfl rfl trivial ?_|refine zn ?_|refine zk ?_|refine zf rfl ?_)
  refine r_seq ?_
  refine r_seq ?_
  refine r_cut (α := Unit) [0, 3, 13] (fun _ => [ptr g.p, ptr bx, .bool (!canB s c x)]) (fun _ w' => Kp [] w1 w') ?_ ?_
  · refine r_mix (fun w' => Kp [] w1 w') [(0, false), (1, false), (2, false), (3, false), (4, false), (5, true), (6, false)] follows_mixed (by kernel_rfl) (by kernel_rfl) (by kernel_rfl) ((Sm.drew w1).kp _) ?_
    have kd := (Sm.drew w1).kp []
    generalize ({ w1 with drawn := w1.drawn + 1 } : World) = wd at kd ⊢
    (repeat refine xo rfl rfl trivial ?_)
    refine x_load (v := ptr g.rg.p) rfl rfl (fun w' h' => (h'.blk (by simp) h1.hdr).cell rfl) rfl rfl rfl rfl ?_
    refine x_loadA (vs := evC x) rfl rfl (fun w' h' j v hv => by rw [Nat.zero_add]; exact (h'.blk (by simp) hB1).cell hv) rfl rfl rfl rfl rfl rfl ?_
    refine x_act rfl ?_
    refine o_call (rCan_ret (h1.kp0 kd).rc x) rfl rfl rfl ?_
    rintro v w2 ⟨rfl, k2⟩
    refine o_nil ⟨.inr (kd.trans k2), ?_⟩
    (repeat first|refine xo rfl rfl trivial ?_|refine xn ?_)
    exact ⟨(), rfl, kd.trans k2⟩
  rintro _ e w2 k2
  have k02 := k1.trans k2
  have h2 := h1.kp0 k2
  have hB2 := k2.blk (by simp) hB1
  have z2 := k02.size
  have hbIn : ¬ g.In bx := fun hb => by have := hlt bx hb; omega
  cases hc : canB s c x with
  | false =>
    (repeat first|refine zA ?_|refine zg ?_|refine zo rfl rfl trivial ?_|refine zn ?_|refine zr ?_|refine zt rfl ?_)
    exact ⟨_, rfl, .inr ⟨rfl, rfl, k02⟩⟩
  | true =>
    refine r_no rfl rfl ?_
    refine r_skip ?_
    refine r_seq ?_
    -- the access is kept
    refine r_cut (α := K23) [0, 3] (fun _ => [ptr g.p, ptr bx]) (fun g' w' => R23M w' g' s c (stepR s c A x) ∧ g'.rg = g.rg ∧ KTo23 w2 g w' g' ∧ Blk w' bx (evC x) 35 ∧ (¬ g'.In bx ∧ g'.ag.length ≤ c.n + 1)) ?_ ?_
    · refine r_seq ?_
      refine r_cut (α := Unit) [0, 3, 21] (fun _ => [ptr g.p, ptr bx, .bool (decide (x.k = 1 ∨ x.k = 2))]) (fun _ w' => w2 = w') ?_ ?_
      · (repeat first|refine zg ?_|refine zo rfl rfl trivial ?_)
        refine o_load (v := I x.k) rfl hB2 rfl rfl rfl rfl rfl ?_
        (repeat refine zo rfl rfl trivial ?_)
        by_cases hk : x.k = 1
        · refine o_is true 3 false rfl rfl rfl (by simp [hk]) ?_
          (repeat first|refine zo rfl rfl trivial ?_|refine zn ?_)
          exact ⟨(), by rw [decide_eq_true (show x.k = 1 ∨ x.k = 2 from .inl hk)]; rfl, rfl⟩
        · refine o_is false 3 false rfl rfl rfl (by simp [hk]) ?_
          (repeat refine zo rfl rfl trivial ?_)
          refine o_load (v := I x.k) rfl hB2 rfl rfl rfl rfl rfl ?_
          (repeat first|refine zo rfl rfl trivial ?_|refine zn ?_)
          exact ⟨(), by rw [show decide (x.k = 1 ∨ x.k = 2) = decide (x.k = 2) by simp [hk]]; rfl, rfl⟩
      rintro _ e _ rfl
      refine r_if (p := x.k = 1 ∨ x.k = 2) rfl (fun hk => ?_) (fun hk => ?_)
      · have eA : stepR s c A x = A ++ [⟨c.n, x, heldR s c x.t⟩] := by unfold stepR; rw [if_pos hk]
        have aIn : ∀ b, b ∈ blkOf g.aad → g.In b := fun b hb => .inr (.inr (.inl hb))
        have bxA : bx ∉ blkOf g.aad := fun hb => hbIn (aIn _ hb)
        refine r_mix (fun w' => Kp (blkOf g.aad) _ w') [(0, false), (1, false), (2, false), (3, false), (4, false), (5, false), (6, false), (7, false), (8, false), (9, false), (10, false), (11, false), (12, false), (13, true), (14, false), (15, true), (16, true), (17, false), (18, false), (19, true)] follows_mixed (by kernel_rfl) (by kernel_rfl) (by kernel_rfl) ((Sm.drew _).kp _) ?_
        have kd := (Sm.drew w2).kp []
        generalize ({ w2 with drawn := w2.drawn + 1 } : World) = wd at kd ⊢
        have hd := h2.kp0 kd
        have zd := kd.size
        (repeat refine xo rfl rfl trivial ?_)
        refine x_load (v := .slice g.aad g.ag.length g.acap) rfl rfl (fun w' h' => (h'.blk h.n2 h2.hdr).cell rfl) rfl rfl rfl rfl ?_
        (repeat refine xo rfl rfl trivial ?_)
        refine x_load (v := I c.n) rfl rfl (fun w' h' => (h'.blk h.n2 h2.hdr).cell rfl) rfl rfl rfl rfl ?_
        refine x_loadA (vs := evC x) rfl rfl (fun w' h' j v hv => by rw [Nat.zero_add]; exact (h'.blk bxA hB2).cell hv) rfl rfl rfl rfl rfl rfl ?_
        (repeat refine xo rfl rfl trivial ?_)
        refine x_load (v := I x.t) rfl rfl (fun w' h' => (h'.blk bxA hB2).cell rfl) rfl rfl rfl rfl ?_
        refine x_act rfl ?_
        refine o_call (rHeld_ret hd x.t) rfl rfl rfl ?_
        rintro v w4 ⟨had, hcap, rfl, hn4⟩
        have k4 := kd.trans hn4.kp
        refine o_nil ⟨.inr (k4.mono (by simp)), ?_⟩
        refine x_build (places := [(0, 1), (1, 3), (4, 1)]) [I c.n, I x.k, I x.t, I x.o, .slice had (heldR s c x.t).length hcap] rfl rfl rfl rfl (by kernel_rfl) (by kernel_rfl) rfl rfl ?_
        refine x_act rfl ?_
        refine o_buildSliceN [I c.n, I x.k, I x.t, I x.o, .slice had (heldR s c x.t).length hcap] rfl rfl rfl (by kernel_rfl) rfl rfl rfl rfl ?_
        intro bm w5 hbm hu5
        have k5 : Kp [] w4 w5 := hu5.kp [] (.inr (by omega))
        have k25 := k4.trans k5
        refine o_nil ⟨.inr (k25.mono (by simp)), ?_⟩
        refine x_act rfl ?_
        refine o_append [I c.n, I x.k, I x.t, I x.o, .slice had (heldR s c x.t).length hcap] rfl rfl (h2.own.kp k25 (by simp)) (fun j v hv => by rw [addr_lit, Nat.zero_add]; exact hu5.blk.cell hv) rfl rfl rfl (by omega) rfl (by omega) (by simp [Value.oneCell']) (by simp only [maxLen]; omega) (by omega) rfl rfl ?_
        intro ad' cap' w6 ho6 k6 hn6
        have k26 : Kp (blkOf g.aad) w2 w6 := (k25.mono (by simp)).trans k6
        refine o_nil ⟨.inr k26, ?_⟩
        (repeat refine xo rfl rfl trivial ?_)
        refine x_act rfl ?_
        refine o_store (v := .slice ad' (g.ag.length + 1) cap') (c := none) rfl (k26.blk h.n2 h2.hdr) (by simp) rfl rfl rfl rfl rfl rfl ?_
        intro w7 hu7
        refine o_nil ⟨.inl (by kernel_rfl), ?_⟩
        (repeat refine xn ?_)
        have k7 : Kp [g.p] w6 w7 := hu7.kp _ (.inl (by simp))
        have l2 := h2.lt
        have z5 := k5.size
        have z25 := k25.size
        have hn6' : ∀ b, b ∈ blkOf ad' → b ∈ blkOf g.aad ∨ w2.heap.size ≤ b := fun b hb => by
          rcases hn6 b hb with q | q
          · exact .inl q
          · exact .inr (by omega)
        have had2 : ∀ b, b ∈ blkOf had → w2.heap.size ≤ b := fun b hb => by have := hn4.new b hb; omega
        have hpn : ∀ b, b ∈ blkOf ad' → b ≠ g.p := fun b hb e => by
          rcases hn6' b hb with q | q
          · exact h.n2 (e ▸ q)
          · have := h2.hdr.lt; omega
        have hpa : g.p ∉ blkOf had := fun hb => by have := had2 _ hb; have := h2.hdr.lt; omega
        have hB7 : Blk w7 bx (evC x) 35 := k7.blk (by simp; intro e; exact hbIn (.inl e)) (k26.blk bxA hB2)
        have hagB : ∀ b, b ∈ agB (g.ag ++ [⟨⟨c.n, x, heldR s c x.t⟩, had, hcap⟩]) → b ∈ agB g.ag ∨ b ∈ blkOf had := fun b hb => by
          unfold agB at hb
          rw [List.flatMap_append, List.mem_append, List.flatMap_singleton] at hb
          exact hb
        have had6 : ∀ b, b ∈ blkOf had → b ∉ blkOf g.aad := fun b hb hb2 => by have := had2 b hb; have := l2 b (aIn b hb2); omega
        have had4 := hn4.own.lt
        have hrc6 : RAt w6 g.rg s c := h2.rc.kp k26 (fun b hb hb2 => (h.n4 b hb2).1 hb)
        have hrd6 : AgOk w6 g.ag := h2.rd.kp k26 (fun b hb hb2 => (h.n4 b hb2).2 hb)
        have hlen : (heldR s c x.t).length ≤ 4096 := by have := heldTo_len c x.t s.lo.toNat; have := h.rc.ok.sh.2.2.2.1; show (heldTo c x.t s.lo.toNat).length ≤ 4096; omega
        refine ⟨⟨g.p, g.rg, g.pad, g.pcap, ad', cap', g.ag ++ [⟨⟨c.n, x, heldR s c x.t⟩, had, hcap⟩]⟩, rfl, ⟨?_, hrc6.kp k7 (fun b hb hb2 => by simp at hb2; exact h.n1 (hb2 ▸ hb)), ?_, ?_, fun y hy => ?_, h.n1, fun hb => hpn _ hb rfl, fun hb => ?_, fun b hb => ⟨fun hb2 => ?_, fun hb2 => ?_⟩, fun b hb hb2 => ?_⟩, rfl, ⟨?_, fun b hb => ?_, fun b hb => ?_, rfl⟩, hB7, fun hb => ?_, ?_⟩
        · simp only [k23C, List.length_append, List.length_singleton]
          exact hu7.blk
        · rw [List.length_append, List.flatMap_append, List.flatMap_singleton]
          exact ho6.upd hu7 (fun hb => hpn _ hb rfl)
        · rw [eA, List.map_append, h.ags]; rfl
        · have k67 : Kp (blkOf g.aad ++ [g.p]) w4 w7 := ((k5.mono (by simp)).trans (k6.mono (fun b hb => List.mem_append_left _ hb))).trans (k7.mono (fun b hb => List.mem_append_right _ hb))
          rcases List.mem_append.1 hy with hy | hy
          · exact (hrd6.kp k7 (fun b hb hb2 => by simp at hb2; exact h.n3 (hb2 ▸ hb))) y hy
          · obtain rfl : y = ⟨⟨c.n, x, heldR s c x.t⟩, had, hcap⟩ := by simpa using hy
            refine ⟨hn4.read.kp k67 (fun b hb hb2 => ?_), hlen, fun b hb => by have := had4 b hb; have := k67.size; omega⟩
            rcases List.mem_append.1 hb2 with q | q
            · exact had6 b hb q
            · simp at q; exact hpa (q ▸ hb)
        · rcases hagB _ hb with q | q
          · exact h.n3 q
          · exact hpa q
        · rcases hn6' b hb with q | q
          · exact (h.n4 b q).1 hb2
          · have := h2.rc.toRM.lt b hb2; omega
        · rcases hn6 b hb with q | q <;> rcases hagB _ hb2 with r | r
          · exact (h.n4 b q).2 r
          · exact had6 b r q
          · have := h2.rd.lt b r; omega
          · have := had4 b r; omega
        · rcases hagB _ hb with q | q
          · exact h.n5 b q hb2
          · have := had2 b q; have := h2.rc.toRM.lt b hb2; omega
        · exact (k26.kq (Q := g.Wr) (fun b hb => .inr (.inr hb))).trans (k7.kq (Q := g.Wr) (fun b hb => .inl (by simpa using hb))) (fun b hb => .inl hb)
        · rcases hb with hb | hb | hb | hb
          · exact .inl (.inl hb)
          · exact .inl (.inr (.inl hb))
          · rcases hn6' b hb with q | q
            · exact .inl (aIn b q)
            · exact .inr q
          · rcases hagB _ hb with q | q
            · exact .inl (.inr (.inr (.inr q)))
            · exact .inr (had2 b q)
        · rcases hb with hb | hb | hb
          · exact .inl (.inl hb)
          · exact .inl (.inr (.inl hb))
          · rcases hn6' b hb with q | q
            · exact .inl (.inr (.inr q))
            · exact .inr q
        · have lb := hB2.lt
          rcases hb with hb | hb | hb | hb
          · exact hbIn (.inl hb)
          · exact hbIn (.inr (.inl hb))
          · rcases hn6' _ hb with q | q
            · exact bxA q
            · omega
          · rcases hagB _ hb with q | q
            · exact hbIn (.inr (.inr (.inr q)))
            · have := had2 _ q; omega
        · simp only [List.length_append, List.length_singleton]; omega
      · have eA : stepR s c A x = A := by unfold stepR; rw [if_neg hk]
        rw [eA]
        (repeat refine zk ?_)
        exact ⟨g, rfl, h2.toR23M, rfl, KTo23.refl _ _, hB2, hbIn, by omega⟩
    rintro g1 e w3 ⟨h3, hrg, t3, hB3, hx3, hl3⟩
    have hg1 : g1.p = g.p := t3.p
    rw [← hg1]
    have l3 := h3.lt
    refine r_seq ?_
    refine r_cut (α := Unit) [0] (fun _ => [ptr g1.p]) (fun _ w' => RAt w' g1.rg s (nextC s c x) ∧ Kp g1.rg.W w3 w') ?_ ?_
    · refine r_mix (fun w' => Kp [] w3 w') [(0, false), (1, false), (2, false), (3, false), (4, false), (5, true)] follows_mixed (by kernel_rfl) (by kernel_rfl) (by kernel_rfl) ((Sm.drew _).kp _) ?_
      have kd := (Sm.drew w3).kp []
      generalize ({ w3 with drawn := w3.drawn + 1 } : World) = wd at kd ⊢
      (repeat refine xo rfl rfl trivial ?_)
      refine x_load (v := ptr g1.rg.p) rfl rfl (fun w' h' => (h'.blk (by simp) h3.hdr).cell rfl) rfl rfl rfl rfl ?_
      refine x_loadA (vs := evC x) rfl rfl (fun w' h' j v hv => by rw [Nat.zero_add]; exact (h'.blk (by simp) hB3).cell hv) rfl rfl rfl rfl rfl rfl ?_
      refine x_act rfl ?_
      refine o_call (rNext_ret (h3.rc.kp0 kd) x (by omega)) rfl rfl rfl ?_
      rintro v w4 (⟨_, rfl, hr4, k4⟩ | ⟨hno, _⟩)
      rotate_left
      · rw [hc] at hno; cases hno
      refine o_nil ⟨.inl (by kernel_rfl), ?_⟩
      (repeat refine xn ?_)
      exact ⟨(), rfl, hr4, (kd.mono (by simp)).trans k4⟩
    rintro _ e w4 ⟨hr4, k4⟩
    have hW : ∀ b, b ∈ g1.rg.W → b ∈ g1.rg.F := RG.WF
    have hB4 := k4.blk (fun hb => h3.n1 (hW _ hb)) h3.hdr
    (repeat first|refine zA ?_|refine zg ?_|refine zo rfl rfl trivial ?_)
    refine o_load (v := I c.n) rfl hB4 rfl rfl rfl rfl rfl ?_
    (repeat refine zo rfl rfl (by first|exact trivial|(simp only[AllP];omega)) ?_)
    refine o_store (v := I ((c.n : Int) + 1)) (c := none) rfl hB4 (by simp) rfl rfl rfl rfl rfl rfl ?_
    intro w5 hu5
    have k5 : Kp [g1.p] w4 w5 := hu5.kp _ (.inl (by simp))
    (repeat first|refine zA ?_|refine zg ?_|refine zo rfl rfl trivial ?_|refine zn ?_|refine zr ?_)
    have hnx := nextC_n s c x
    have own5 := (h3.own.kp k4 (fun b hb hb2 => (h3.n4 b hb).1 (hW _ hb2))).kp k5 (fun b hb hb2 => by simp at hb2; exact h3.n2 (hb2 ▸ hb))
    have rd5 := (h3.rd.kp k4 (fun b hb hb2 => h3.n5 b hb (hW _ hb2))).kp k5 (fun b hb hb2 => by simp at hb2; exact h3.n3 (hb2 ▸ hb))
    refine ⟨_, rfl, .inl ⟨rfl, rfl, g1, ⟨⟨?_, hr4.kp k5 (fun b hb hb2 => by simp at hb2; exact h3.n1 (hb2 ▸ hb)), own5, h3.ags, rd5, h3.n1, h3.n2, h3.n3, h3.n4, h3.n5⟩, by rw [hnx]; exact hl3⟩, ?_⟩⟩
    · have := hu5.blk
      simp only [k23C, hnx]
      exact this
    · refine ((KTo23.of0 k02).trans t3).trans ⟨?_, fun b hb => .inl hb, fun b hb => .inl hb, rfl⟩
      exact (k4.kq (Q := g1.Wr) (fun b hb => .inr (.inl hb))).trans (k5.kq (Q := g1.Wr) (fun b hb => .inl (by simpa using hb))) (fun b hb => .inl hb)
end
end Go.Vc
/- abreastref23: Events, Copy. -/
namespace Go.Vc
open Go Go.Proofs
set_option maxRecDepth 10000
variable {w : World}
section
variable {g : K23} {s : Shp} {c : Ck} {A : List AccR}
structure KCp23 (w : World) (g : K23) (s : Shp) (c : Ck) (A : List AccR) (w' : World) (g' : K23) : Prop where
  at_ : R23 w' g' s c A
  kp : Kp [] w w'
  new : ∀ b, g'.In b → (b ∈ blkOf g.rg.pad ∨ b ∈ agB g.ag) ∨ w.heap.size ≤ b
  wr : ∀ b, g'.Wr b → w.heap.size ≤ b
set_option maxHeartbeats 3200000 in
theorem rCopy23_ret (h : R23 w g s c A) (hn : c.n ≤ 2199023255552) : Ret Tryd.prog 24 [ptr g.p] w (fun v w' => ∃ g', v = ptr g'.p ∧ KCp23 w g s c A w' g') := by
  have hal := h.al
  have hlt := h.lt
  refine enter Tryd.call24 Tryd.func24 rfl rfl rfl rfl ?_
  (repeat first|refine zA ?_|refine zB ?_|refine zg ?_|refine zo rfl rfl trivial ?_|refine zn ?_|refine zk ?_|refine zf rfl ?_)
  refine r_seq ?_
  refine r_cut (α := RG × Nat) [0, 3] (fun y => [ptr g.p, ptr y.2]) (fun y w' => RCp w g.rg s c w' y.1 ∧ Blk w' y.2 [ptr y.1.p, I s.th, I s.va, I s.vo, I s.lo, .slice g.pad s.pa.length g.pcap, I c.n, .slice none 0 0] 101 ∧ w.heap.size ≤ y.2 ∧ y.2 ∉ y.1.F) ?_ ?_
  · refine r_mix (fun w' => Kp [] w w') [(0, false), (1, false), (2, false), (3, false), (5, false), (6, false), (7, false), (8, false), (9, false), (10, false), (11, false), (12, false), (4, true), (13, false), (14, true), (15, false)] follows_mixed (by kernel_rfl) (by kernel_rfl) (by kernel_rfl) ((Sm.drew _).kp _) ?_
    have kd := (Sm.drew w).kp []
    generalize ({ w with drawn := w.drawn + 1 } : World) = wd at kd ⊢
    have zd := kd.size
    (repeat refine xo rfl rfl trivial ?_)
    refine x_load (v := ptr g.rg.p) rfl rfl (fun w' h' => (h'.blk (by simp) h.hdr).cell rfl) rfl rfl rfl rfl ?_
    (repeat refine xo rfl rfl trivial ?_)
    refine x_loadA (vs := shC s g.pad g.pcap) rfl rfl (fun w' h' j v hv => ?_) rfl rfl rfl rfl rfl rfl ?_
    · have hh := (h'.blk (by simp) h.hdr)
      match j, hv with
      | 0, hv => exact hh.cell hv
      | 1, hv => exact hh.cell hv
      | 2, hv => exact hh.cell hv
      | 3, hv => exact hh.cell hv
      | 4, hv => exact hh.cell hv
      | j + 5, hv => simp [shC] at hv
    (repeat refine xo rfl rfl trivial ?_)
    refine x_load (v := I c.n) rfl rfl (fun w' h' => (h'.blk (by simp) h.hdr).cell rfl) rfl rfl rfl rfl ?_
    refine x_act rfl ?_
    refine o_call (rCopy_ret (h.rc.kp0 kd)) rfl rfl rfl ?_
    rintro v w2 ⟨rg, rfl, hc⟩
    refine o_nil ⟨.inr (kd.trans hc.kp), ?_⟩
    refine x_build (places := [(0, 1), (1, 5), (6, 1), (7, 1)]) [ptr rg.p, I s.th, I s.va, I s.vo, I s.lo, .slice g.pad s.pa.length g.pcap, I c.n, .slice none 0 0] rfl rfl rfl rfl (by kernel_rfl) (by kernel_rfl) rfl rfl ?_
    refine x_act rfl ?_
    refine o_box rfl rfl rfl ?_
    intro bc w3 hbc hu3
    have k3 : Kp [] w2 w3 := hu3.kp [] (.inr (by omega))
    refine o_nil ⟨.inr (kd.trans (hc.kp.trans k3)), ?_⟩
    (repeat first|refine xo rfl rfl trivial ?_|refine xn ?_)
    have zc := hc.kp.size
    exact ⟨(rg, bc), rfl, ⟨hc.at_.kp0 k3, kd.trans (hc.kp.trans k3), hc.pad, fun b hb => by
      rcases hc.new b hb with q | q
      · exact .inl q
      · exact .inr (by omega)⟩, hu3.blk, by dsimp only; omega, fun hb => by have := hc.at_.toRM.lt _ hb; omega⟩
  rintro ⟨rg, bc⟩ e w2 ⟨hc, hB2, hb2, hbF⟩
  dsimp only at hc hB2 hb2 hbF
  have h2 := h.kp0 hc.kp
  refine r_seq ?_
  refine r_mix (fun w' => Kp [] w2 w') [(0, false), (1, false), (2, false), (3, false), (4, false), (5, false), (6, false), (7, false), (8, false), (9, true), (10, false), (11, false), (12, true)] follows_mixed (by kernel_rfl) (by kernel_rfl) (by kernel_rfl) ((Sm.drew _).kp _) ?_
  have kd := (Sm.drew w2).kp []
  generalize ({ w2 with drawn := w2.drawn + 1 } : World) = wd at kd ⊢
  have zd := kd.size
  have z2 := hc.kp.size
  (repeat refine xo rfl rfl trivial ?_)
  refine x_load (v := .slice none 0 0) rfl rfl (fun w' h' => (h'.blk (by simp) hB2).cell rfl) rfl rfl rfl rfl ?_
  (repeat refine xo rfl rfl trivial ?_)
  refine x_load (v := .slice g.aad g.ag.length g.acap) rfl rfl (fun w' h' => (h'.blk (by simp) h2.hdr).cell rfl) rfl rfl rfl rfl ?_
  refine x_act rfl ?_
  refine o_cloneR (g.ag.flatMap agC) rfl rfl (h2.own.readN.kp kd (by simp)) (agC_len _) (fun v hv => by obtain ⟨x, _, hx⟩ := List.mem_flatMap.1 hv; simp [agC] at hx; rcases hx with rfl | rfl | rfl | rfl | rfl <;> rfl) rfl rfl rfl (by omega) (by simp only [maxLen]; omega) (by omega) rfl rfl ?_
  intro ad' cap' w3 ho3 k3 hn3
  refine o_nil ⟨.inr (kd.trans k3), ?_⟩
  have k23 := kd.trans k3
  (repeat refine xo rfl rfl trivial ?_)
  refine x_act rfl ?_
  refine o_store (v := .slice ad' g.ag.length cap') (c := none) rfl (k23.blk (by simp) hB2) (by simp) rfl rfl rfl rfl rfl rfl ?_
  intro w4 hu4
  refine o_nil ⟨.inl (by kernel_rfl), ?_⟩
  (repeat refine xn ?_)
  (repeat first|refine zA ?_|refine zg ?_|refine zo rfl rfl trivial ?_|refine zn ?_|refine zr ?_)
  have k4 : Kp [bc] w3 w4 := hu4.kp _ (.inl (by simp))
  have hnb : ∀ b, b ∈ blkOf ad' → w2.heap.size ≤ b := fun b hb => by have := hn3 b hb; omega
  have lb := hB2.lt
  have hlg := h2.rd.lt
  have hlr := hc.at_.toRM.lt
  have old : ∀ b, g.In b → b ≠ bc := fun b hb e => by have := hlt b hb; omega
  refine ⟨_, rfl, ⟨bc, rg, g.pad, g.pcap, ad', cap', g.ag⟩, rfl, ⟨⟨⟨hu4.blk, (hc.at_.kp0 k23).kp k4 (fun b hb hb2 => by simp at hb2; exact hbF (hb2 ▸ hb)), ho3.upd hu4 (fun hb => by have := hnb _ hb; omega), h.ags, (h2.rd.kp k23 (by simp)).kp k4 (fun b hb hb2 => by simp at hb2; exact old b (.inr (.inr (.inr hb))) hb2), hbF, fun (hb : bc ∈ blkOf ad') => by have := hnb _ hb; omega, fun (hb : bc ∈ agB g.ag) => old bc (.inr (.inr (.inr hb))) rfl, fun b hb => ⟨fun hb2 => by have := hnb b hb; have := hlr b hb2; omega, fun hb2 => by have := hnb b hb; have := hlg b hb2; omega⟩, fun b hb hb2 => ?_⟩, hal⟩, ?_, fun b hb => ?_, fun b hb => ?_⟩⟩
  · rcases hc.new b hb2 with q | q
    · exact h.n5 b hb (by simp [RG.F, q])
    · have := h.rd.lt b hb; omega
  · exact (hc.kp.trans k23).since k4 (by simp; omega)
  · rcases hb with hb | hb | hb | hb
    · exact .inr (by have hb : b = bc := hb; omega)
    · rcases hc.new b hb with q | q
      · exact .inl (.inl q)
      · exact .inr q
    · exact .inr (by have := hnb b hb; omega)
    · exact .inl (.inr hb)
  · rcases hb with hb | hb | hb
    · have hb : b = bc := hb; omega
    · rcases hc.new b (RG.WF b hb) with q | q
      · exfalso
        have hnd := hc.at_.nd
        rw [← hc.pad] at q
        simp only [RG.F, List.nodup_cons, List.mem_append, not_or, List.nodup_append] at hnd
        simp only [RG.W, List.mem_cons, List.mem_append] at hb
        rcases hb with r | r | r | r
        · exact hnd.1.1 (r ▸ q)
        · exact hnd.2.2.2 b q b (.inl r) rfl
        · exact hnd.2.2.2 b q b (.inr (.inl r)) rfl
        · exact hnd.2.2.2 b q b (.inr (.inr r)) rfl
      · exact q
    · have := hnb b hb; omega
end
end Go.Vc
