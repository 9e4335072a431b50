/- (*feasible.Checker).Copy: a checker of its own; the shape's parties are shared. -/
import Derived.Test.YtkgjibhbhddckaaDoorQClKPlays34
import Derived.Test.YtkgjibhbhddckaaDoorQClKPlays30
import Derived.Test.YtkgjibhbhddckaaDoorQClKPlays15
namespace Go.Vc
open Go Go.Proofs
set_option maxRecDepth 10000
variable {w : World}
/-- a copy's blocks: new but for the parties -/
structure CkCp (w : World) (g : CkG) (s : Shp) (c : Ck) (w' : World) (g' : CkG) : Prop where
  at_ : CkAt w' g' s c
  kp : Kp [] w w'
  pad : g'.pad = g.pad
  new : ∀ b, b ∈ g'.F → b ∈ blkOf g.pad ∨ w.heap.size ≤ b
set_option maxHeartbeats 6400000 in
theorem fCopy_ret {g : CkG} {s : Shp} {c : Ck} (h : CkAt w g s c) : Ret Tryd.prog 49 [ptr g.p] w (fun v w' => ∃ g', v = ptr g'.p ∧ CkCp w g s c w' g') := by
  refine enter Tryd.call49 Tryd.func49 rfl rfl rfl rfl ?_
  (repeat first|refine zA ?_|refine zB ?_|refine zg ?_|refine zo rfl rfl trivial ?_|refine zn ?_)
  refine o_call (fnone_ret h) rfl rfl rfl ?_
  rintro v wx ⟨rfl, rfl⟩
  (repeat first|refine zA ?_|refine zg ?_|refine zo rfl rfl trivial ?_|refine zn ?_|refine zk ?_|refine zf rfl ?_)
  refine o_loadA (vs := ckC g s c) rfl (fun j v hv => ?_) rfl rfl rfl rfl rfl rfl ?_
  · rw [Nat.zero_add]; exact h.hdr.cell hv
  refine o_alloc rfl rfl rfl rfl ?_
  intro bc w1 hbc hu1
  refine o_storeA (cs := ckC g s c) rfl hu1.blk (Nat.le_refl _) rfl (by simp [Value.oneCell']) rfl rfl rfl rfl ?_
  intro w2 hu2
  have k1 : Kp [] wx w1 := hu1.kp [] (.inr (by omega))
  have k2 : Kp [] wx w2 := k1.since (hu2.kp [bc] (.inl (by simp))) (by simp; omega)
  have hB2 : Blk w2 bc (ckC g s c) 143 := hu2.blk
  have h2 := h.kp0 k2
  have z2 := hB2.lt
  have hlt := h.toCkM.lt
  have hnb : ∀ b, b ∈ g.F → b ∉ [bc] := fun b hb hb2 => by have := hlt b hb; simp at hb2; omega
  (repeat refine zn ?_)
  refine r_seq ?_
  refine r_mix (fun w' => Kp [bc] w2 w') [(0, false), (1, false), (2, false), (3, false), (5, false), (6, false), (7, false), (8, false), (10, false), (11, false), (12, false), (13, false), (4, true), (9, true), (14, true), (15, false), (16, true), (17, false), (18, true), (19, false), (20, true)] follows_mixed (by kernel_rfl) (by kernel_rfl) (by kernel_rfl) ((Sm.drew w2).kp _) ?_
  have kd := (Sm.drew w2).kp []
  generalize ({ w2 with drawn := w2.drawn + 1 } : World) = w3 at kd ⊢
  (repeat refine xo rfl rfl trivial ?_)
  refine x_load (v := .map (some g.m1)) rfl rfl (fun w' h' => (h2.kp h' hnb).hdr.cell rfl) rfl rfl rfl rfl ?_
  (repeat refine xo rfl rfl trivial ?_)
  refine x_load (v := .map (some g.m2)) rfl rfl (fun w' h' => (h2.kp h' hnb).hdr.cell rfl) rfl rfl rfl rfl ?_
  (repeat refine xo rfl rfl trivial ?_)
  refine x_load (v := .slice g.oad c.op.length g.ocap) rfl rfl (fun w' h' => (h2.kp h' hnb).hdr.cell rfl) rfl rfl rfl rfl ?_
  have z3 := kd.size
  have h3 := h2.kp0 kd
  refine x_act rfl ?_
  refine o_call (CloneT_ret h3.mt) rfl rfl rfl ?_
  rintro v w4 ⟨m1, rfl, hm1, hM1, k4⟩
  refine o_nil ⟨.inr ((kd.trans k4).mono (by simp)), ?_⟩
  have h4 := h3.kp0 k4
  have z4 := k4.size
  have y1 := hM1.lt
  refine x_act rfl ?_
  refine o_call (CloneO_ret h4.mo) rfl rfl rfl ?_
  rintro v w5 ⟨m2, rfl, hm2, hM2, k5⟩
  refine o_nil ⟨.inr ((kd.trans (k4.trans k5)).mono (by simp)), ?_⟩
  have h5 := h4.kp0 k5
  have z5 := k5.size
  have y2 := hM2.lt
  refine x_act rfl ?_
  refine o_call (CloneOp_ret h5.op.readN (by have := h.ok.op; have := h.ok.sh.2.2.2.2.1; omega)) rfl rfl rfl ?_
  rintro v w6 ⟨oad, ocap, rfl, hO, k6, hon⟩
  have k36 := kd.trans ((k4.trans k5).trans k6)
  refine o_nil ⟨.inr (k36.mono (by simp)), ?_⟩
  have z6 := k6.size
  have hB6 := k36.blk (by simp) hB2
  (repeat refine xo rfl rfl trivial ?_)
  refine x_act rfl ?_
  refine o_store (v := .map (some m1)) (c := none) rfl hB6 (by simp) rfl rfl rfl rfl rfl rfl ?_
  intro w7 hu7
  have k7 : Kp [bc] w6 w7 := hu7.kp _ (.inl (by simp))
  have q7 : Kp [bc] w2 w7 := (k36.mono (by simp)).trans k7
  refine o_nil ⟨.inr q7, ?_⟩
  (repeat refine xo rfl rfl trivial ?_)
  refine x_act rfl ?_
  refine o_store (v := .map (some m2)) (c := none) rfl hu7.blk (by simp) rfl rfl rfl rfl rfl rfl ?_
  intro w8 hu8
  have k8 : Kp [bc] w7 w8 := hu8.kp _ (.inl (by simp))
  have q8 := q7.trans k8
  refine o_nil ⟨.inr q8, ?_⟩
  (repeat refine xo rfl rfl trivial ?_)
  refine x_act rfl ?_
  refine o_store (v := .slice oad c.op.length ocap) (c := none) rfl hu8.blk (by simp) rfl rfl rfl rfl rfl rfl ?_
  intro w9 hu9
  have k9 : Kp [bc] w8 w9 := hu9.kp _ (.inl (by simp))
  have q9 := q8.trans k9
  have k69 := (k7.trans k8).trans k9
  refine o_nil ⟨.inl (by kernel_rfl), ?_⟩
  (repeat refine xn ?_)
  (repeat first|refine zA ?_|refine zg ?_|refine zo rfl rfl trivial ?_|refine zn ?_|refine zr ?_)
  have hF : ∀ b, b ∈ blkOf g.pad → b ∈ g.F := fun b hb => by simp [CkG.F, hb]
  have k29 : Kp [] wx w9 := k2.since q9 (by simp; omega)
  refine ⟨_, rfl, ⟨bc, m1, m2, g.pad, g.pcap, oad, ocap⟩, rfl, ⟨⟨hu9.blk, ?_, ?_, ?_, ?_, ?_⟩, h.ok⟩, k29, rfl, fun b hb => ?_⟩
  · exact ((hM1.kp (k5.trans k6) (by simp))).kp k69 (by simp; omega)
  · exact (hM2.kp k6 (by simp)).kp k69 (by simp; omega)
  · exact h.pa.kp k29 (by simp)
  · exact hO.kp k69 (fun b hb hb2 => by have := hon b hb; simp at hb2; omega)
  · have hpd : (blkOf g.pad).Nodup := by cases g.pad <;> simp [blkOf]
    have hod : (blkOf oad).Nodup := by cases oad <;> simp [blkOf]
    show (bc :: m1 :: m2 :: (blkOf g.pad ++ blkOf oad)).Nodup
    simp only [List.nodup_cons, List.mem_cons, List.mem_append, not_or, List.nodup_append]
    refine ⟨⟨by omega, by omega, fun hb => by have := hlt _ (hF _ hb); omega, fun hb => by have := hon _ hb; omega⟩, ⟨by omega, fun hb => by have := hlt _ (hF _ hb); omega, fun hb => by have := hon _ hb; omega⟩, ⟨fun hb => by have := hlt _ (hF _ hb); omega, fun hb => by have := hon _ hb; omega⟩, hpd, hod, fun a ha b hb e => by have := hlt _ (hF _ ha); have := hon _ hb; omega⟩
  · simp only [CkG.F, List.mem_cons, List.mem_append] at hb
    rcases hb with rfl | rfl | rfl | hb | hb
    · exact .inr (by omega)
    · exact .inr (by omega)
    · exact .inr (by omega)
    · exact .inl hb
    · exact .inr (by have := hon _ hb; omega)
end Go.Vc
/- (*abreastref19.Checker).Copy (printed by tool/mkLs23.py). -/
namespace Go.Vc
open Go Go.Proofs
set_option maxRecDepth 10000
variable {w : World}
/-- the header of a copy on its way -/
abbrev rcC (g : RG) (s : Shp) (c : Ck) (A B C : Value) : List Value := [I s.th, I s.va, I s.vo, I s.lo, .slice g.pad s.pa.length g.pcap, A, B, C, I c.n]
/-- a row on its way: the first i of l -/
structure Rw {α : Type} (w W : World) (T : TypeId) (m : Nat) (f : α → List Value) (l : List α) (i : Nat) (ad : Option Addr) (cap : Nat) : Prop where
  own : OwnS W T m ad i cap ((l.take i).flatMap f)
  new : ∀ b, b ∈ blkOf ad → w.heap.size ≤ b
theorem Rw.nil {α : Type} (w W : World) (T : TypeId) (m : Nat) (f : α → List Value) (l : List α) : Rw w W T m f l 0 none 0 := ⟨by simp only [List.take_zero, List.flatMap_nil]; exact ownS_nil _ _ _, by simp [blkOf]⟩
theorem Rw.kp {α : Type} {w W W' : World} {T : TypeId} {m : Nat} {f : α → List Value} {l : List α} {i : Nat} {ad : Option Addr} {cap : Nat} (h : Rw w W T m f l i ad cap) {S : List Nat} (hk : Kp S W W') (hS : ∀ b, b ∈ blkOf ad → b ∉ S) : Rw w W' T m f l i ad cap := ⟨h.own.kp hk hS, h.new⟩
theorem take_succ' {α : Type} {f : α → List Value} {l : List α} {i : Nat} {x : α} (h : l[i]? = some x) : (l.take (i + 1)).flatMap f = (l.take i).flatMap f ++ f x := by
  rw [List.take_add_one, h]; simp
/-- a reference's checker that was copied -/
structure RCp (w : World) (g : RG) (s : Shp) (c : Ck) (w' : World) (g' : RG) : Prop where
  at_ : RAt w' g' s c
  kp : Kp [] w w'
  pad : g'.pad = g.pad
  new : ∀ b, b ∈ g'.F → b ∈ blkOf g.pad ∨ w.heap.size ≤ b
theorem thL_nat {s : Shp} {c : Ck} {i : Nat} (h : i < s.th.toNat) : (thL s c)[i]? = some (st c i) := by have := thL_get (s := s) (c := c) (t := (i : Int)) (by omega) (by omega); simpa using this
theorem loL_nat {s : Shp} {c : Ck} {i : Nat} (h : i < s.lo.toNat) : (loL s c)[i]? = some ((c.O i).getD (-1)) := by have := loL_get (s := s) (c := c) (l := (i : Int)) (by omega) (by omega); simpa using this
theorem op_nat {c : Ck} {i : Nat} (h : i < c.op.length) : c.op[i]? = some (opAt c i) := by unfold opAt; rw [Int.toNat_natCast, List.getElem?_eq_getElem h]; rfl
theorem rloc1 {g : RG} {s : Shp} {c : Ck} (h : RAt w g s c) {i : Nat} (hi : i < s.th.toNat) : ∃ b L, g.tad = some ⟨b, 0, none⟩ ∧ Blk w b L 123 ∧ ∀ j v, (stdC (st c i))[j]? = some v → L[i * 3 + j]? = some v := by
  obtain ⟨b, L, h1, h2, _, h4, _⟩ := h.thr (t := (i : Int)) (by omega) (by omega)
  exact ⟨b, L, h1, h2, by simpa using h4⟩
theorem rloc2 {g : RG} {s : Shp} {c : Ck} (h : RAt w g s c) {i : Nat} (hi : i < s.lo.toNat) : ∃ b L, g.wad = some ⟨b, 0, none⟩ ∧ Blk w b L 3 ∧ L[i]? = some (I ((c.O i).getD (-1))) := by
  obtain ⟨b, L, h1, h2, _, h4, _⟩ := h.lok (l := (i : Int)) (by omega) (by omega)
  exact ⟨b, L, h1, h2, by simpa using h4⟩
theorem rloc3 {g : RG} {s : Shp} {c : Ck} (h : RAt w g s c) {i : Nat} (hi : i < c.op.length) : ∃ b L, g.oad = some ⟨b, 0, none⟩ ∧ Blk w b L 118 ∧ ∀ j v, (opC2 (opAt c i))[j]? = some v → L[i * 2 + j]? = some v := by
  obtain ⟨b, L, h1, h2, _, h4, _⟩ := h.opn (i := (i : Int)) (by omega) (by omega)
  exact ⟨b, L, h1, h2, by simpa using h4⟩
set_option maxHeartbeats 12800000 in
theorem rCopy_ret {g : RG} {s : Shp} {c : Ck} (h : RAt w g s c) : Ret Tryd.prog 52 [ptr g.p] w (fun v w' => ∃ g', v = ptr g'.p ∧ RCp w g s c w' g') := by
  have hb1 : s.th ≤ 65535 := h.ok.sh.1.2
  have hb2 : s.lo ≤ 4096 := h.ok.sh.2.2.2.1.2
  have hb3 : c.op.length ≤ 4096 := by have := h.ok.op; have := h.ok.sh.2.2.2.2.1; omega
  have hlt := h.toRM.lt
  have hF : ∀ b, b ∈ blkOf g.pad → b ∈ g.F := fun b hb => by simp [RG.F, hb]
  refine enter Tryd.call52 Tryd.func52 rfl rfl rfl rfl ?_
  (repeat first|refine zA ?_|refine zB ?_|refine zg ?_|refine zo rfl rfl trivial ?_|refine zn ?_|refine zk ?_|refine zf rfl ?_)
  refine r_seq ?_
  refine r_cut (α := Nat) [0, 3] (fun bc => [ptr g.p, ptr bc]) (fun bc w' => Blk w' bc (rcC g s c (.slice none 0 0) (.slice none 0 0) (.slice none 0 0)) 160 ∧ Kp [] w w' ∧ w.heap.size ≤ bc) ?_ ?_
  · refine r_mix (fun w' => Kp [] w w') [(0, false), (1, false), (2, false), (3, false), (4, false), (5, false), (6, false), (7, false), (8, false), (9, true), (10, false)] follows_mixed (by kernel_rfl) (by kernel_rfl) (by kernel_rfl) ((Sm.drew w).kp _) ?_
    have kd := (Sm.drew w).kp []
    generalize ({ w with drawn := w.drawn + 1 } : World) = wd at kd ⊢
    have zd := kd.size
    (repeat refine xo rfl rfl trivial ?_)
    refine x_loadA (vs := shC s g.pad g.pcap) rfl rfl (fun w' h' j v hv => ?_) rfl rfl rfl rfl rfl rfl ?_
    · rw [Nat.zero_add]
      refine (h.kp0 h').hdr.cell ?_
      match j, hv with
      | 0, hv => exact hv
      | 1, hv => exact hv
      | 2, hv => exact hv
      | 3, hv => exact hv
      | 4, hv => exact hv
      | j + 5, hv => simp [shC] at hv
    (repeat refine xo rfl rfl trivial ?_)
    refine x_load (v := I c.n) rfl rfl (fun w' h' => (h.kp0 h').hdr.cell rfl) rfl rfl rfl rfl ?_
    refine x_build (places := [(0, 5), (5, 1), (6, 1), (7, 1), (8, 1)]) (rcC g s c (.slice none 0 0) (.slice none 0 0) (.slice none 0 0)) rfl rfl rfl rfl (by kernel_rfl) (by kernel_rfl) rfl rfl ?_
    refine x_act rfl ?_
    refine o_box rfl rfl rfl ?_
    intro bc w2 hbc hu2
    have k2 : Kp [] wd w2 := hu2.kp [] (.inr (by omega))
    refine o_nil ⟨.inr (kd.trans k2), ?_⟩
    (repeat first|refine xo rfl rfl trivial ?_|refine xn ?_)
    exact ⟨bc, rfl, hu2.blk, kd.trans k2, by omega⟩
  rintro bc e w0 ⟨hB0, k0, hbc⟩
  have bcF : bc ∉ g.F := fun hb => by have := hlt bc hb; omega
  (repeat first|refine zA ?_|refine zB ?_|refine zg ?_|refine zo rfl rfl trivial ?_|refine zn ?_|refine zb ?_)
  refine r_loop (α := Nat × Option Addr × Nat) [0, 3, 4] (fun x => [ptr g.p, ptr bc, I x.1]) (fun x W1 => x.1 ≤ s.th.toNat ∧ Blk W1 bc (rcC g s c (.slice x.2.1 x.1 x.2.2) (.slice none 0 0) (.slice none 0 0)) 160 ∧ Kp [] w W1 ∧ Rw w W1 123 3 stdC (thL s c) x.1 x.2.1 x.2.2 ∧ (bc ∉ blkOf x.2.1)) (fun x => s.th.toNat - x.1) (0, none, 0) rfl ⟨by omega, hB0, k0, Rw.nil _ _ _ _ _ _, by simp [blkOf]⟩ ?_
  rintro ⟨i1, ad1, cap1⟩ e W1 ⟨hi, hB1, kk1, hR1, nbad1⟩
  dsimp only at hi hB1 hR1 nbad1
  have hW := h.kp0 kk1
  (repeat first|refine zA ?_|refine zB ?_|refine zg ?_|refine zo rfl rfl trivial ?_)
  refine o_load (v := .slice g.tad s.th.toNat g.tcap) rfl hW.hdr rfl rfl rfl rfl rfl ?_
  (repeat first|refine zo rfl rfl trivial ?_|refine zn ?_)
  refine r_if rfl (fun hc => ?_) (fun hc => ?_)
  · have hl : i1 < s.th.toNat := by omega
    obtain ⟨rb, L, hrow, hL, hLg⟩ := rloc1 hW hl
    have hrF : rb ∈ g.F := by simp [RG.F, hrow, blkOf]
    have hh := hW.hdr
    simp only [rgC] at hh
    rw [hrow] at hh
    have nF : ∀ b, b ∈ g.F → b ∉ blkOf ad1 := fun b hb hb2 => by have := hlt b hb; have := hR1.new b hb2; omega
    (repeat first|refine zC ?_|refine zb ?_|refine zk ?_)
    refine r_mix (fun w' => Kp (blkOf ad1) W1 w') [(0, false), (1, false), (2, false), (3, false), (4, false), (5, false), (6, false), (7, false), (8, false), (9, false), (10, false), (11, false), (12, true), (13, true), (14, false), (15, false), (16, true)] follows_mixed (by kernel_rfl) (by kernel_rfl) (by kernel_rfl) ((Sm.drew W1).kp _) ?_
    have kd := (Sm.drew W1).kp []
    generalize ({ W1 with drawn := W1.drawn + 1 } : World) = wd at kd ⊢
    have zd := kd.size
    (repeat refine xo rfl rfl trivial ?_)
    refine x_load (v := .slice ad1 i1 cap1) rfl rfl (fun w' h' => (h'.blk nbad1 hB1).cell rfl) rfl rfl rfl rfl ?_
    (repeat refine xo rfl rfl trivial ?_)
    refine x_load (v := .slice (some ⟨rb, 0, none⟩) s.th.toNat g.tcap) rfl rfl (fun w' h' => (h'.blk (nF _ (by simp [RG.F])) hh).cell rfl) rfl rfl rfl rfl ?_
    (repeat refine xo rfl rfl (by first|exact trivial|(simp only[AllP];omega)) ?_)
    refine x_loadA (b := rb) (off := i1 * 3) (vs := stdC (st c i1)) rfl (by show Value.pointer (some ⟨rb, 0 + i1 * 3, none⟩) = _; rw [Nat.zero_add]) (fun w' h' j v hv => (h'.blk (nF _ hrF) hL).cell (hLg j v hv)) rfl rfl rfl rfl rfl rfl ?_
    refine x_act rfl ?_
    refine o_buildSliceN (stdC (st c i1)) rfl rfl rfl (by kernel_rfl) rfl rfl rfl rfl ?_
    intro bm w2 hbm hu2
    have k2 : Kp [] wd w2 := hu2.kp [] (.inr (by omega))
    have k02 := kd.trans k2
    refine o_nil ⟨.inr (k02.mono (by simp)), ?_⟩
    refine x_act rfl ?_
    refine o_append (stdC (st c i1)) rfl rfl (hR1.own.kp k02 (by simp)) (fun j v hv => by rw [addr_lit, Nat.zero_add]; exact hu2.blk.cell hv) rfl rfl rfl (by omega) rfl (by omega) (by simp [Value.oneCell']) (by simp only [maxLen]; omega) (by omega) rfl rfl ?_
    intro ad1' cap1' w3 ho3 k3 hn3
    have kW3 : Kp (blkOf ad1) W1 w3 := (k02.mono (by simp)).trans k3
    refine o_nil ⟨.inr kW3, ?_⟩
    (repeat refine xo rfl rfl trivial ?_)
    refine x_act rfl ?_
    have hBx := kW3.blk nbad1 hB1
    refine o_store (v := .slice ad1' (i1 + 1) cap1') (c := none) rfl hBx (by simp) rfl rfl rfl rfl rfl rfl ?_
    intro w4 hu4
    refine o_nil ⟨.inl (by kernel_rfl), ?_⟩
    (repeat refine xn ?_)
    (repeat first|refine zg ?_|refine zo rfl rfl (by first|exact trivial|(simp only[AllP];omega)) ?_|refine zn ?_)
    have zW := kk1.size
    have nbad1' : bc ∉ blkOf ad1' := fun hb => by
      rcases hn3 bc hb with q | q
      · exact nbad1 q
      · have := hB1.lt; have := k02.size; omega
    have hn' : ∀ b, b ∈ blkOf ad1' → w.heap.size ≤ b := fun b hb => by
      rcases hn3 b hb with q | q
      · exact hR1.new b q
      · have := k02.size; omega
    have k4 : Kp [bc] w3 w4 := hu4.kp _ (.inl (by simp))
    refine ⟨(i1 + 1, ad1', cap1'), rfl, ⟨by dsimp only; omega, hu4.blk, (kk1.since kW3 hR1.new).since k4 (by simp; omega), ⟨?_, hn'⟩, nbad1'⟩, by dsimp only; omega⟩
    dsimp only
    rw [take_succ' (thL_nat hl)]
    exact ho3.upd hu4 nbad1'
  (repeat first|refine zA ?_|refine zB ?_|refine zg ?_|refine zo rfl rfl trivial ?_|refine zn ?_|refine zb ?_|refine ze rfl ?_)
  have e1 : i1 = s.th.toNat := by omega
  subst e1
  refine r_loop (α := Nat × Option Addr × Nat) [0, 3, 5] (fun x => [ptr g.p, ptr bc, I x.1]) (fun x W2 => x.1 ≤ s.lo.toNat ∧ Blk W2 bc (rcC g s c (.slice ad1 s.th.toNat cap1) (.slice x.2.1 x.1 x.2.2) (.slice none 0 0)) 160 ∧ Kp [] w W2 ∧ Rw w W2 3 1 (fun x => [I x]) (loL s c) x.1 x.2.1 x.2.2 ∧ (bc ∉ blkOf x.2.1) ∧ Rw w W2 123 3 stdC (thL s c) (s.th.toNat) ad1 cap1 ∧ (∀ b, b ∈ blkOf x.2.1 → b ∉ blkOf ad1)) (fun x => s.lo.toNat - x.1) (0, none, 0) rfl ⟨by omega, hB1, kk1, Rw.nil _ _ _ _ _ _, by simp [blkOf], hR1, by simp [blkOf]⟩ ?_
  rintro ⟨i2, ad2, cap2⟩ e W2 ⟨hi, hB2, kk2, hR2, nbad2, hq20, hd20⟩
  dsimp only at hi hB2 hR2 nbad2 hq20 hd20
  have hW := h.kp0 kk2
  (repeat first|refine zA ?_|refine zB ?_|refine zg ?_|refine zo rfl rfl trivial ?_)
  refine o_load (v := .slice g.wad s.lo.toNat g.wcap) rfl hW.hdr rfl rfl rfl rfl rfl ?_
  (repeat first|refine zo rfl rfl trivial ?_|refine zn ?_)
  refine r_if rfl (fun hc => ?_) (fun hc => ?_)
  · have hl : i2 < s.lo.toNat := by omega
    obtain ⟨rb, L, hrow, hL, hLg⟩ := rloc2 hW hl
    have hrF : rb ∈ g.F := by simp [RG.F, hrow, blkOf]
    have hh := hW.hdr
    simp only [rgC] at hh
    rw [hrow] at hh
    have nF : ∀ b, b ∈ g.F → b ∉ blkOf ad2 := fun b hb hb2 => by have := hlt b hb; have := hR2.new b hb2; omega
    (repeat first|refine zC ?_|refine zb ?_|refine zk ?_)
    refine r_mix (fun w' => Kp (blkOf ad2) W2 w') [(0, false), (1, false), (2, false), (3, false), (4, false), (5, false), (6, false), (7, false), (8, false), (9, false), (10, false), (11, false), (12, true), (13, true), (14, false), (15, false), (16, true)] follows_mixed (by kernel_rfl) (by kernel_rfl) (by kernel_rfl) ((Sm.drew W2).kp _) ?_
    have kd := (Sm.drew W2).kp []
    generalize ({ W2 with drawn := W2.drawn + 1 } : World) = wd at kd ⊢
    have zd := kd.size
    (repeat refine xo rfl rfl trivial ?_)
    refine x_load (v := .slice ad2 i2 cap2) rfl rfl (fun w' h' => (h'.blk nbad2 hB2).cell rfl) rfl rfl rfl rfl ?_
    (repeat refine xo rfl rfl trivial ?_)
    refine x_load (v := .slice (some ⟨rb, 0, none⟩) s.lo.toNat g.wcap) rfl rfl (fun w' h' => (h'.blk (nF _ (by simp [RG.F])) hh).cell rfl) rfl rfl rfl rfl ?_
    (repeat refine xo rfl rfl (by first|exact trivial|(simp only[AllP];omega)) ?_)
    refine x_load (b := rb) (off := i2) (v := I ((c.O i2).getD (-1))) rfl (by show Value.pointer (some ⟨rb, 0 + i2, none⟩) = _; rw [Nat.zero_add]) (fun w' h' => (h'.blk (nF _ hrF) hL).cell hLg) rfl rfl rfl rfl ?_
    refine x_act rfl ?_
    refine o_buildSlice [I ((c.O i2).getD (-1))] rfl (by simp [Value.oneCell']) rfl (by decide) (by decide) rfl rfl rfl rfl rfl ?_
    intro bm w2 hbm hu2
    have k2 : Kp [] wd w2 := hu2.kp [] (.inr (by omega))
    have k02 := kd.trans k2
    refine o_nil ⟨.inr (k02.mono (by simp)), ?_⟩
    refine x_act rfl ?_
    refine o_append ([I ((c.O i2).getD (-1))]) rfl rfl (hR2.own.kp k02 (by simp)) (fun j v hv => by rw [addr_lit, Nat.zero_add]; exact hu2.blk.cell hv) rfl rfl rfl (by omega) rfl (by omega) (by simp [Value.oneCell']) (by simp only [maxLen]; omega) (by omega) rfl rfl ?_
    intro ad2' cap2' w3 ho3 k3 hn3
    have kW3 : Kp (blkOf ad2) W2 w3 := (k02.mono (by simp)).trans k3
    refine o_nil ⟨.inr kW3, ?_⟩
    (repeat refine xo rfl rfl trivial ?_)
    refine x_act rfl ?_
    have hBx := kW3.blk nbad2 hB2
    refine o_store (v := .slice ad2' (i2 + 1) cap2') (c := none) rfl hBx (by simp) rfl rfl rfl rfl rfl rfl ?_
    intro w4 hu4
    refine o_nil ⟨.inl (by kernel_rfl), ?_⟩
    (repeat refine xn ?_)
    (repeat first|refine zg ?_|refine zo rfl rfl (by first|exact trivial|(simp only[AllP];omega)) ?_|refine zn ?_)
    have zW := kk2.size
    have nbad2' : bc ∉ blkOf ad2' := fun hb => by
      rcases hn3 bc hb with q | q
      · exact nbad2 q
      · have := hB2.lt; have := k02.size; omega
    have hn' : ∀ b, b ∈ blkOf ad2' → w.heap.size ≤ b := fun b hb => by
      rcases hn3 b hb with q | q
      · exact hR2.new b q
      · have := k02.size; omega
    have k4 : Kp [bc] w3 w4 := hu4.kp _ (.inl (by simp))
    refine ⟨(i2 + 1, ad2', cap2'), rfl, ⟨by dsimp only; omega, hu4.blk, (kk2.since kW3 hR2.new).since k4 (by simp; omega), ⟨?_, hn'⟩, nbad2', ((hq20.kp kW3 (fun b hb hb2 => hd20 b hb2 hb)).kp k4 (by simp; intro b hb e; exact nbad1 (e ▸ hb))), (fun b hb hb2 => by rcases hn3 b hb with r | r; exact hd20 b r hb2; have := hq20.own.lt b hb2; have := k02.size; omega)⟩, by dsimp only; omega⟩
    dsimp only
    rw [take_succ' (f := fun x => [I x]) (loL_nat hl)]
    exact ho3.upd hu4 nbad2'
  (repeat first|refine zA ?_|refine zB ?_|refine zg ?_|refine zo rfl rfl trivial ?_|refine zn ?_|refine zb ?_|refine ze rfl ?_)
  have e2 : i2 = s.lo.toNat := by omega
  subst e2
  refine r_loop (α := Nat × Option Addr × Nat) [0, 3, 6] (fun x => [ptr g.p, ptr bc, I x.1]) (fun x W3 => x.1 ≤ c.op.length ∧ Blk W3 bc (rcC g s c (.slice ad1 s.th.toNat cap1) (.slice ad2 s.lo.toNat cap2) (.slice x.2.1 x.1 x.2.2)) 160 ∧ Kp [] w W3 ∧ Rw w W3 118 2 opC2 c.op x.1 x.2.1 x.2.2 ∧ (bc ∉ blkOf x.2.1) ∧ Rw w W3 123 3 stdC (thL s c) (s.th.toNat) ad1 cap1 ∧ (∀ b, b ∈ blkOf x.2.1 → b ∉ blkOf ad1) ∧ Rw w W3 3 1 (fun x => [I x]) (loL s c) (s.lo.toNat) ad2 cap2 ∧ (∀ b, b ∈ blkOf x.2.1 → b ∉ blkOf ad2)) (fun x => c.op.length - x.1) (0, none, 0) rfl ⟨by omega, hB2, kk2, Rw.nil _ _ _ _ _ _, by simp [blkOf], hq20, by simp [blkOf], hR2, by simp [blkOf]⟩ ?_
  rintro ⟨i3, ad3, cap3⟩ e W3 ⟨hi, hB3, kk3, hR3, nbad3, hq30, hd30, hq31, hd31⟩
  dsimp only at hi hB3 hR3 nbad3 hq30 hd30 hq31 hd31
  have hW := h.kp0 kk3
  (repeat first|refine zA ?_|refine zB ?_|refine zg ?_|refine zo rfl rfl trivial ?_)
  refine o_load (v := .slice g.oad c.op.length g.ocap) rfl hW.hdr rfl rfl rfl rfl rfl ?_
  (repeat first|refine zo rfl rfl trivial ?_|refine zn ?_)
  refine r_if rfl (fun hc => ?_) (fun hc => ?_)
  · have hl : i3 < c.op.length := by omega
    obtain ⟨rb, L, hrow, hL, hLg⟩ := rloc3 hW hl
    have hrF : rb ∈ g.F := by simp [RG.F, hrow, blkOf]
    have hh := hW.hdr
    simp only [rgC] at hh
    rw [hrow] at hh
    have nF : ∀ b, b ∈ g.F → b ∉ blkOf ad3 := fun b hb hb2 => by have := hlt b hb; have := hR3.new b hb2; omega
    (repeat first|refine zC ?_|refine zb ?_|refine zk ?_)
    refine r_mix (fun w' => Kp (blkOf ad3) W3 w') [(0, false), (1, false), (2, false), (3, false), (4, false), (5, false), (6, false), (7, false), (8, false), (9, false), (10, false), (11, false), (12, true), (13, true), (14, false), (15, false), (16, true)] follows_mixed (by kernel_rfl) (by kernel_rfl) (by kernel_rfl) ((Sm.drew W3).kp _) ?_
    have kd := (Sm.drew W3).kp []
    generalize ({ W3 with drawn := W3.drawn + 1 } : World) = wd at kd ⊢
    have zd := kd.size
    (repeat refine xo rfl rfl trivial ?_)
    refine x_load (v := .slice ad3 i3 cap3) rfl rfl (fun w' h' => (h'.blk nbad3 hB3).cell rfl) rfl rfl rfl rfl ?_
    (repeat refine xo rfl rfl trivial ?_)
    refine x_load (v := .slice (some ⟨rb, 0, none⟩) c.op.length g.ocap) rfl rfl (fun w' h' => (h'.blk (nF _ (by simp [RG.F])) hh).cell rfl) rfl rfl rfl rfl ?_
    (repeat refine xo rfl rfl (by first|exact trivial|(simp only[AllP];omega)) ?_)
    refine x_loadA (b := rb) (off := i3 * 2) (vs := opC2 (opAt c i3)) rfl (by show Value.pointer (some ⟨rb, 0 + i3 * 2, none⟩) = _; rw [Nat.zero_add]) (fun w' h' j v hv => (h'.blk (nF _ hrF) hL).cell (hLg j v hv)) rfl rfl rfl rfl rfl rfl ?_
    refine x_act rfl ?_
    refine o_buildSliceN (opC2 (opAt c i3)) rfl rfl rfl (by kernel_rfl) rfl rfl rfl rfl ?_
    intro bm w2 hbm hu2
    have k2 : Kp [] wd w2 := hu2.kp [] (.inr (by omega))
    have k02 := kd.trans k2
    refine o_nil ⟨.inr (k02.mono (by simp)), ?_⟩
    refine x_act rfl ?_
    refine o_append (opC2 (opAt c i3)) rfl rfl (hR3.own.kp k02 (by simp)) (fun j v hv => by rw [addr_lit, Nat.zero_add]; exact hu2.blk.cell hv) rfl rfl rfl (by omega) rfl (by omega) (by simp [Value.oneCell']) (by simp only [maxLen]; omega) (by omega) rfl rfl ?_
    intro ad3' cap3' w3 ho3 k3 hn3
    have kW3 : Kp (blkOf ad3) W3 w3 := (k02.mono (by simp)).trans k3
    refine o_nil ⟨.inr kW3, ?_⟩
    (repeat refine xo rfl rfl trivial ?_)
    refine x_act rfl ?_
    have hBx := kW3.blk nbad3 hB3
    refine o_store (v := .slice ad3' (i3 + 1) cap3') (c := none) rfl hBx (by simp) rfl rfl rfl rfl rfl rfl ?_
    intro w4 hu4
    refine o_nil ⟨.inl (by kernel_rfl), ?_⟩
    (repeat refine xn ?_)
    (repeat first|refine zg ?_|refine zo rfl rfl (by first|exact trivial|(simp only[AllP];omega)) ?_|refine zn ?_)
    have zW := kk3.size
    have nbad3' : bc ∉ blkOf ad3' := fun hb => by
      rcases hn3 bc hb with q | q
      · exact nbad3 q
      · have := hB3.lt; have := k02.size; omega
    have hn' : ∀ b, b ∈ blkOf ad3' → w.heap.size ≤ b := fun b hb => by
      rcases hn3 b hb with q | q
      · exact hR3.new b q
      · have := k02.size; omega
    have k4 : Kp [bc] w3 w4 := hu4.kp _ (.inl (by simp))
    refine ⟨(i3 + 1, ad3', cap3'), rfl, ⟨by dsimp only; omega, hu4.blk, (kk3.since kW3 hR3.new).since k4 (by simp; omega), ⟨?_, hn'⟩, nbad3', ((hq30.kp kW3 (fun b hb hb2 => hd30 b hb2 hb)).kp k4 (by simp; intro b hb e; exact nbad1 (e ▸ hb))), (fun b hb hb2 => by rcases hn3 b hb with r | r; exact hd30 b r hb2; have := hq30.own.lt b hb2; have := k02.size; omega), ((hq31.kp kW3 (fun b hb hb2 => hd31 b hb2 hb)).kp k4 (by simp; intro b hb e; exact nbad2 (e ▸ hb))), (fun b hb hb2 => by rcases hn3 b hb with r | r; exact hd31 b r hb2; have := hq31.own.lt b hb2; have := k02.size; omega)⟩, by dsimp only; omega⟩
    dsimp only
    rw [take_succ' (op_nat hl)]
    exact ho3.upd hu4 nbad3'
  (repeat first|refine zA ?_|refine zg ?_|refine zo rfl rfl trivial ?_|refine zn ?_|refine ze rfl ?_|refine zr ?_)
  have e3 : i3 = c.op.length := by omega
  subst e3
  have hFp : ∀ b, b ∈ blkOf g.pad → b < w.heap.size := fun b hb => hlt b (hF b hb)
  have lb := hB3.lt
  have l1 := hq30.own.lt
  have l2 := hq31.own.lt
  have l3 := hR3.own.lt
  refine ⟨_, rfl, ⟨bc, g.pad, g.pcap, ad1, cap1, ad2, cap2, ad3, cap3⟩, rfl, ⟨⟨hB3, h.pa.kp kk3 (by simp), ?_, ?_, ?_, ?_⟩, h.ok, h.nz⟩, kk3, rfl, fun b hb => ?_⟩
  · have := hq30.own
    rw [← thL_len s c, List.take_length, thL_len] at this
    exact this
  · have := hq31.own
    rw [← loL_len s c, List.take_length, loL_len, ← List.map_eq_flatMap] at this
    exact this
  · have := hR3.own
    rw [List.take_length] at this
    exact this
  · have nd1 : (blkOf ad1).Nodup := by cases ad1 <;> simp [blkOf]
    have nd2 : (blkOf ad2).Nodup := by cases ad2 <;> simp [blkOf]
    have nd3 : (blkOf ad3).Nodup := by cases ad3 <;> simp [blkOf]
    have ndp : (blkOf g.pad).Nodup := by cases g.pad <;> simp [blkOf]
    show (bc :: (blkOf g.pad ++ (blkOf ad1 ++ (blkOf ad2 ++ blkOf ad3)))).Nodup
    simp only [List.nodup_cons, List.mem_append, not_or, List.nodup_append]
    exact ⟨⟨fun q => by have := hFp _ q; omega, nbad1, nbad2, nbad3⟩, ndp, ⟨nd1, ⟨nd2, nd3, fun a ha b hb e => hd31 b hb (e ▸ ha)⟩, fun a ha b hb e => by
      rcases hb with hb | hb
      · exact hd20 b hb (e ▸ ha)
      · exact hd30 b hb (e ▸ ha)⟩, fun a ha b hb e => by
      have := hFp a ha
      rcases hb with hb | hb | hb
      · have := hq30.new b hb; omega
      · have := hq31.new b hb; omega
      · have := hR3.new b hb; omega⟩
  · simp only [RG.F, List.mem_cons, List.mem_append] at hb
    rcases hb with rfl | hb | hb | hb | hb
    · exact .inr hbc
    · exact .inl hb
    · exact .inr (hq30.new b hb)
    · exact .inr (hq31.new b hb)
    · exact .inr (hR3.new b hb)
end Go.Vc
