/- abreastref19: New, Round, Stand, Owner. -/
import Derived.Test.YtkgjibhbhddckaaDoorQClKPlays28
namespace Go.Vc
open Go Go.Proofs
set_option maxRecDepth 10000
variable {w : World}
def RG.D (g : RG) : Nat → List Nat
  | 0 => [g.p]
  | 1 => blkOf g.pad
  | 2 => blkOf g.tad
  | 3 => blkOf g.wad
  | 4 => blkOf g.oad
  | _ => []
def SepD (D : Nat → List Nat) : Prop := ∀ i j b, i ≠ j → b ∈ D i → b ∉ D j
theorem SepD.upd {D D' : Nat → List Nat} {N : Nat} (h : SepD D) (lt : ∀ i b, b ∈ D i → b < N) (k : Nat) (h' : ∀ i, i ≠ k → D' i = D i) (hk : ∀ b, b ∈ D' k → b ∈ D k ∨ N ≤ b) : SepD D' := by
  intro i j b hij hb hb2
  by_cases hi : i = k
  · subst hi
    rw [h' j (fun e => hij e.symm)] at hb2
    rcases hk b hb with q | q
    · exact h i j b hij q hb2
    · have := lt j b hb2; omega
  · rw [h' i hi] at hb
    by_cases hj : j = k
    · subst hj
      rcases hk b hb2 with q | q
      · exact h i j b hij hb q
      · have := lt i b hb; omega
    · rw [h' j hj] at hb2
      exact h i j b hij hb hb2
theorem nodup_blk (ad : Option Addr) : (blkOf ad).Nodup := by cases ad <;> simp [blkOf]
theorem nodup_app {a b : List Nat} (ha : a.Nodup) (hb : b.Nodup) (h : ∀ x, x ∈ a → x ∉ b) : (a ++ b).Nodup := by
  rw [List.nodup_append]
  exact ⟨ha, hb, fun x hx y hy e => h x hx (e ▸ hy)⟩
theorem RG.nd_of {g : RG} (h : SepD g.D) : g.F.Nodup := by
  have n1 : ∀ x, x ∈ blkOf g.wad → x ∉ blkOf g.oad := fun x => h 3 4 x (by simp)
  have n2 : ∀ x, x ∈ blkOf g.tad → x ∉ blkOf g.wad ++ blkOf g.oad := fun x hx hx2 => by
    rcases List.mem_append.1 hx2 with q | q
    · exact h 2 3 x (by simp) hx q
    · exact h 2 4 x (by simp) hx q
  have n3 : ∀ x, x ∈ blkOf g.pad → x ∉ blkOf g.tad ++ (blkOf g.wad ++ blkOf g.oad) := fun x hx hx2 => by
    rcases List.mem_append.1 hx2 with q | q
    · exact h 1 2 x (by simp) hx q
    rcases List.mem_append.1 q with q | q
    · exact h 1 3 x (by simp) hx q
    · exact h 1 4 x (by simp) hx q
  unfold RG.F
  rw [List.nodup_cons]
  refine ⟨fun hm => ?_, nodup_app (nodup_blk _) (nodup_app (nodup_blk _) (nodup_app (nodup_blk _) (nodup_blk _) n1) n2) n3⟩
  have hp : g.p ∈ g.D 0 := by simp [RG.D]
  rcases List.mem_append.1 hm with q | q
  · exact h 0 1 _ (by simp) hp q
  rcases List.mem_append.1 q with q | q
  · exact h 0 2 _ (by simp) hp q
  rcases List.mem_append.1 q with q | q
  · exact h 0 3 _ (by simp) hp q
  · exact h 0 4 _ (by simp) hp q
/-- a checker that is being made -/
structure PN (w0 w : World) (g : RG) (s : Shp) (np no : Nat) (nt : List Std) (nw : Nat) : Prop where
  hdr : Blk w g.p [I s.th, I s.va, I s.vo, I s.lo, .slice g.pad np g.pcap, .slice g.tad nt.length g.tcap, .slice g.wad nw g.wcap, .slice g.oad no g.ocap, I 0] 160
  pa : OwnS w 3 1 g.pad np g.pcap ((s.pa.take np).map I)
  th : OwnS w 123 3 g.tad nt.length g.tcap (nt.flatMap stdC)
  lo : OwnS w 3 1 g.wad nw g.wcap ((List.replicate nw (-1 : Int)).map I)
  op : OwnS w 118 2 g.oad no g.ocap ((List.replicate no ((0, 0) : Int × Int)).flatMap opC2)
  sep : SepD g.D
  new : ∀ i b, b ∈ g.D i → w0.heap.size ≤ b
  kk : Kp [] w0 w
section
variable {w0 : World} {g : RG} {s : Shp} {np no nw : Nat} {nt : List Std}
theorem PN.lt (h : PN w0 w g s np no nt nw) : ∀ i b, b ∈ g.D i → b < w.heap.size := by
  intro i b hb
  match i with
  | 0 => simp [RG.D] at hb; subst hb; exact h.hdr.lt
  | 1 => exact h.pa.lt b hb
  | 2 => exact h.th.lt b hb
  | 3 => exact h.lo.lt b hb
  | 4 => exact h.op.lt b hb
  | n + 5 => simp [RG.D] at hb
theorem PN.kp0 {w' : World} (h : PN w0 w g s np no nt nw) (hk : Kp [] w w') : PN w0 w' g s np no nt nw :=
  ⟨hk.blk (by simp) h.hdr, h.pa.kp hk (by simp), h.th.kp hk (by simp), h.lo.kp hk (by simp), h.op.kp hk (by simp), h.sep, h.new, h.kk.trans hk⟩
theorem PN.pne (h : PN w0 w g s np no nt nw) {i : Nat} (hi : i ≠ 0) : g.p ∉ g.D i := h.sep 0 i g.p hi.symm (by simp [RG.D])
/-- behind an append to one of the rows (its number k), and the store of it -/
theorem PN.parts {w1 w2 : World} {L : List Value} {k : Nat} (h : PN w0 w g s np no nt nw) (hk0 : k ≠ 0) (k1 : Kp (g.D k) w w1) (hu : Upd w1 g.p (.cells ⟨L⟩ 160 (0, 0)) w2) : Kp [] w0 w2 := by
  have h2 : Kp (g.D k ++ [g.p]) w w2 := (k1.mono (fun b hb => by simp [hb])).trans (hu.kp _ (.inl (by simp)))
  refine h.kk.since h2 (fun b hb => ?_)
  rcases List.mem_append.1 hb with q | q
  · exact h.new k b q
  · simp at q; subst q; exact h.new 0 _ (by simp [RG.D])
theorem PN.pushP {ad' : Option Addr} {cap' : Nat} {w1 w2 : World} (h : PN w0 w g s np no nt nw) (ho : OwnS w1 3 1 ad' (np + 1) cap' ((s.pa.take (np + 1)).map I)) (k1 : Kp (blkOf g.pad) w w1) (hn : ∀ b, b ∈ blkOf ad' → b ∈ blkOf g.pad ∨ w.heap.size ≤ b) (hu : Upd w1 g.p (.cells ⟨[I s.th, I s.va, I s.vo, I s.lo, .slice ad' (np + 1) cap', .slice g.tad nt.length g.tcap, .slice g.wad nw g.wcap, .slice g.oad no g.ocap, I 0]⟩ 160 (0, 0)) w2) : PN w0 w2 { g with pad := ad', pcap := cap' } s (np + 1) no nt nw := by
  have hkp : Kp (g.D 1 ++ [g.p]) w w2 := ((show Kp (g.D 1) w w1 from k1).mono (fun b hb => by simp [hb])).trans (hu.kp _ (.inl (by simp)))
  have hpl := h.hdr.lt
  have hpn : g.p ∉ blkOf ad' := fun hb => by
    rcases hn _ hb with q | q
    · exact h.pne (i := 1) (by simp) q
    · omega
  refine ⟨hu.blk, ho.upd hu hpn, (h.th.kp hkp (fun b hb hb2 => by
    rcases List.mem_append.1 hb2 with q | q
    · exact h.sep 2 1 b (by simp) hb q
    · simp at q; subst q; exact h.pne (i := 2) (by simp) hb)), (h.lo.kp hkp (fun b hb hb2 => by
    rcases List.mem_append.1 hb2 with q | q
    · exact h.sep 3 1 b (by simp) hb q
    · simp at q; subst q; exact h.pne (i := 3) (by simp) hb)), (h.op.kp hkp (fun b hb hb2 => by
    rcases List.mem_append.1 hb2 with q | q
    · exact h.sep 4 1 b (by simp) hb q
    · simp at q; subst q; exact h.pne (i := 4) (by simp) hb)), h.sep.upd h.lt 1 (fun i hi => ?_) hn, fun i b hb => ?_, h.parts (k := 1) (by simp) k1 hu⟩
  · match i, hi with
    | 0, _ => rfl
    | 1, hi => first | rfl | exact absurd rfl hi
    | 2, hi => first | rfl | exact absurd rfl hi
    | 3, hi => first | rfl | exact absurd rfl hi
    | 4, hi => first | rfl | exact absurd rfl hi
    | n + 5, _ => rfl
  · by_cases hi : i = 1
    · subst hi
      rcases hn b hb with q | q
      · exact h.new 1 b q
      · have := h.kk.size; omega
    · refine h.new i b ?_
      match i, hi with
      | 0, _ => exact hb
      | 1, hi => first | exact absurd rfl hi | exact hb
      | 2, hi => first | exact absurd rfl hi | exact hb
      | 3, hi => first | exact absurd rfl hi | exact hb
      | 4, hi => first | exact absurd rfl hi | exact hb
      | n + 5, _ => exact hb
theorem PN.pushT {y : Std} {ad' : Option Addr} {cap' : Nat} {w1 w2 : World} (h : PN w0 w g s np no nt nw) (ho : OwnS w1 123 3 ad' (nt.length + 1) cap' ((nt ++ [y]).flatMap stdC)) (k1 : Kp (blkOf g.tad) w w1) (hn : ∀ b, b ∈ blkOf ad' → b ∈ blkOf g.tad ∨ w.heap.size ≤ b) (hu : Upd w1 g.p (.cells ⟨[I s.th, I s.va, I s.vo, I s.lo, .slice g.pad np g.pcap, .slice ad' (nt.length + 1) cap', .slice g.wad nw g.wcap, .slice g.oad no g.ocap, I 0]⟩ 160 (0, 0)) w2) : PN w0 w2 { g with tad := ad', tcap := cap' } s np no (nt ++ [y]) nw := by
  have el : (nt ++ [y]).length = nt.length + 1 := by simp
  have hkp : Kp (g.D 2 ++ [g.p]) w w2 := ((show Kp (g.D 2) w w1 from k1).mono (fun b hb => by simp [hb])).trans (hu.kp _ (.inl (by simp)))
  have hpl := h.hdr.lt
  have hpn : g.p ∉ blkOf ad' := fun hb => by
    rcases hn _ hb with q | q
    · exact h.pne (i := 2) (by simp) q
    · omega
  refine ⟨by rw [el]; exact hu.blk, (h.pa.kp hkp (fun b hb hb2 => by
    rcases List.mem_append.1 hb2 with q | q
    · exact h.sep 1 2 b (by simp) hb q
    · simp at q; subst q; exact h.pne (i := 1) (by simp) hb)), by rw [el]; exact ho.upd hu hpn, (h.lo.kp hkp (fun b hb hb2 => by
    rcases List.mem_append.1 hb2 with q | q
    · exact h.sep 3 2 b (by simp) hb q
    · simp at q; subst q; exact h.pne (i := 3) (by simp) hb)), (h.op.kp hkp (fun b hb hb2 => by
    rcases List.mem_append.1 hb2 with q | q
    · exact h.sep 4 2 b (by simp) hb q
    · simp at q; subst q; exact h.pne (i := 4) (by simp) hb)), h.sep.upd h.lt 2 (fun i hi => ?_) hn, fun i b hb => ?_, h.parts (k := 2) (by simp) k1 hu⟩
  · match i, hi with
    | 0, _ => rfl
    | 1, hi => first | rfl | exact absurd rfl hi
    | 2, hi => first | rfl | exact absurd rfl hi
    | 3, hi => first | rfl | exact absurd rfl hi
    | 4, hi => first | rfl | exact absurd rfl hi
    | n + 5, _ => rfl
  · by_cases hi : i = 2
    · subst hi
      rcases hn b hb with q | q
      · exact h.new 2 b q
      · have := h.kk.size; omega
    · refine h.new i b ?_
      match i, hi with
      | 0, _ => exact hb
      | 1, hi => first | exact absurd rfl hi | exact hb
      | 2, hi => first | exact absurd rfl hi | exact hb
      | 3, hi => first | exact absurd rfl hi | exact hb
      | 4, hi => first | exact absurd rfl hi | exact hb
      | n + 5, _ => exact hb
theorem PN.pushW {ad' : Option Addr} {cap' : Nat} {w1 w2 : World} (h : PN w0 w g s np no nt nw) (ho : OwnS w1 3 1 ad' (nw + 1) cap' ((List.replicate (nw + 1) (-1 : Int)).map I)) (k1 : Kp (blkOf g.wad) w w1) (hn : ∀ b, b ∈ blkOf ad' → b ∈ blkOf g.wad ∨ w.heap.size ≤ b) (hu : Upd w1 g.p (.cells ⟨[I s.th, I s.va, I s.vo, I s.lo, .slice g.pad np g.pcap, .slice g.tad nt.length g.tcap, .slice ad' (nw + 1) cap', .slice g.oad no g.ocap, I 0]⟩ 160 (0, 0)) w2) : PN w0 w2 { g with wad := ad', wcap := cap' } s np no nt (nw + 1) := by
  have hkp : Kp (g.D 3 ++ [g.p]) w w2 := ((show Kp (g.D 3) w w1 from k1).mono (fun b hb => by simp [hb])).trans (hu.kp _ (.inl (by simp)))
  have hpl := h.hdr.lt
  have hpn : g.p ∉ blkOf ad' := fun hb => by
    rcases hn _ hb with q | q
    · exact h.pne (i := 3) (by simp) q
    · omega
  refine ⟨hu.blk, (h.pa.kp hkp (fun b hb hb2 => by
    rcases List.mem_append.1 hb2 with q | q
    · exact h.sep 1 3 b (by simp) hb q
    · simp at q; subst q; exact h.pne (i := 1) (by simp) hb)), (h.th.kp hkp (fun b hb hb2 => by
    rcases List.mem_append.1 hb2 with q | q
    · exact h.sep 2 3 b (by simp) hb q
    · simp at q; subst q; exact h.pne (i := 2) (by simp) hb)), ho.upd hu hpn, (h.op.kp hkp (fun b hb hb2 => by
    rcases List.mem_append.1 hb2 with q | q
    · exact h.sep 4 3 b (by simp) hb q
    · simp at q; subst q; exact h.pne (i := 4) (by simp) hb)), h.sep.upd h.lt 3 (fun i hi => ?_) hn, fun i b hb => ?_, h.parts (k := 3) (by simp) k1 hu⟩
  · match i, hi with
    | 0, _ => rfl
    | 1, hi => first | rfl | exact absurd rfl hi
    | 2, hi => first | rfl | exact absurd rfl hi
    | 3, hi => first | rfl | exact absurd rfl hi
    | 4, hi => first | rfl | exact absurd rfl hi
    | n + 5, _ => rfl
  · by_cases hi : i = 3
    · subst hi
      rcases hn b hb with q | q
      · exact h.new 3 b q
      · have := h.kk.size; omega
    · refine h.new i b ?_
      match i, hi with
      | 0, _ => exact hb
      | 1, hi => first | exact absurd rfl hi | exact hb
      | 2, hi => first | exact absurd rfl hi | exact hb
      | 3, hi => first | exact absurd rfl hi | exact hb
      | 4, hi => first | exact absurd rfl hi | exact hb
      | n + 5, _ => exact hb
theorem PN.pushO {ad' : Option Addr} {cap' : Nat} {w1 w2 : World} (h : PN w0 w g s np no nt nw) (ho : OwnS w1 118 2 ad' (no + 1) cap' ((List.replicate (no + 1) ((0, 0) : Int × Int)).flatMap opC2)) (k1 : Kp (blkOf g.oad) w w1) (hn : ∀ b, b ∈ blkOf ad' → b ∈ blkOf g.oad ∨ w.heap.size ≤ b) (hu : Upd w1 g.p (.cells ⟨[I s.th, I s.va, I s.vo, I s.lo, .slice g.pad np g.pcap, .slice g.tad nt.length g.tcap, .slice g.wad nw g.wcap, .slice ad' (no + 1) cap', I 0]⟩ 160 (0, 0)) w2) : PN w0 w2 { g with oad := ad', ocap := cap' } s np (no + 1) nt nw := by
  have hkp : Kp (g.D 4 ++ [g.p]) w w2 := ((show Kp (g.D 4) w w1 from k1).mono (fun b hb => by simp [hb])).trans (hu.kp _ (.inl (by simp)))
  have hpl := h.hdr.lt
  have hpn : g.p ∉ blkOf ad' := fun hb => by
    rcases hn _ hb with q | q
    · exact h.pne (i := 4) (by simp) q
    · omega
  refine ⟨hu.blk, (h.pa.kp hkp (fun b hb hb2 => by
    rcases List.mem_append.1 hb2 with q | q
    · exact h.sep 1 4 b (by simp) hb q
    · simp at q; subst q; exact h.pne (i := 1) (by simp) hb)), (h.th.kp hkp (fun b hb hb2 => by
    rcases List.mem_append.1 hb2 with q | q
    · exact h.sep 2 4 b (by simp) hb q
    · simp at q; subst q; exact h.pne (i := 2) (by simp) hb)), (h.lo.kp hkp (fun b hb hb2 => by
    rcases List.mem_append.1 hb2 with q | q
    · exact h.sep 3 4 b (by simp) hb q
    · simp at q; subst q; exact h.pne (i := 3) (by simp) hb)), ho.upd hu hpn, h.sep.upd h.lt 4 (fun i hi => ?_) hn, fun i b hb => ?_, h.parts (k := 4) (by simp) k1 hu⟩
  · match i, hi with
    | 0, _ => rfl
    | 1, hi => first | rfl | exact absurd rfl hi
    | 2, hi => first | rfl | exact absurd rfl hi
    | 3, hi => first | rfl | exact absurd rfl hi
    | 4, hi => first | rfl | exact absurd rfl hi
    | n + 5, _ => rfl
  · by_cases hi : i = 4
    · subst hi
      rcases hn b hb with q | q
      · exact h.new 4 b q
      · have := h.kk.size; omega
    · refine h.new i b ?_
      match i, hi with
      | 0, _ => exact hb
      | 1, hi => first | exact absurd rfl hi | exact hb
      | 2, hi => first | exact absurd rfl hi | exact hb
      | 3, hi => first | exact absurd rfl hi | exact hb
      | 4, hi => first | exact absurd rfl hi | exact hb
      | n + 5, _ => exact hb
theorem PN.setT {w2 : World} {b : Nat} {o : Obj} {nt' : List Std} (h : PN w0 w g s np no nt nw) (hl : nt'.length = nt.length) (hb : g.tad = some ⟨b, 0, none⟩) (hu : Upd w b o w2) (ho : OwnS w2 123 3 g.tad nt'.length g.tcap (nt'.flatMap stdC)) : PN w0 w2 g s np no nt' nw := by
  have hbt : b ∈ g.D 2 := by show b ∈ blkOf g.tad; rw [hb]; simp [blkOf]
  have k : Kp [b] w w2 := hu.kp _ (.inl (by simp))
  have sp : ∀ i, i ≠ 2 → ∀ c, c ∈ g.D i → c ∉ [b] := fun i hi c hc hc2 => by simp at hc2; subst hc2; exact h.sep i 2 _ hi hc hbt
  exact ⟨by rw [hl]; exact k.blk (sp 0 (by simp) _ (by simp [RG.D])) h.hdr, h.pa.kp k (sp 1 (by simp)), ho, h.lo.kp k (sp 3 (by simp)), h.op.kp k (sp 4 (by simp)), h.sep, h.new, h.kk.since k (fun c hc => by simp at hc; subst hc; exact h.new 2 _ hbt)⟩
end
end Go.Vc
