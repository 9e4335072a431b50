/- abreastref19: New, Round, Stand, Owner. -/
import Derived.Test.YtkgngbpkiklckaaGreatDoorQClQRaces32
namespace Go.Vc
open Go Go.Proofs
set_option maxRecDepth 10000
variable {w : World}
def RG.D (g : RG) : Nat → List Nat
  | 0 => [g.p]
  | 1 => blkOf g.pad
  | 2 => blkOf g.tad
  | 3 => blkOf g.wad
  | 4 => blkOf g.oad
  | _ => []
def SepD (D : Nat → List Nat) : Prop := ∀ i j b, i ≠ j → b ∈ D i → b ∉ D j
theorem SepD.upd {D D' : Nat → List Nat} {N : Nat} (h : SepD D) (lt : ∀ i b, b ∈ D i → b < N) (k : Nat) (h' : ∀ i, i ≠ k → D' i = D i) (hk : ∀ b, b ∈ D' k → b ∈ D k ∨ N ≤ b) : SepD D' := by
  intro i j b hij hb hb2
  by_cases hi : i = k
  · subst hi
    rw [h' j (fun e => hij e.symm)] at hb2
    rcases hk b hb with q | q
    · exact h i j b hij q hb2
    · have := lt j b hb2; omega
  · rw [h' i hi] at hb
    by_cases hj : j = k
    · subst hj
      rcases hk b hb2 with q | q
      · exact h i j b hij hb q
      · have := lt i b hb; omega
    · rw [h' j hj] at hb2
      exact h i j b hij hb hb2
theorem nodup_blk (ad : Option Addr) : (blkOf ad).Nodup := by cases ad <;> simp [blkOf]
theorem nodup_app {a b : List Nat} (ha : a.Nodup) (hb : b.Nodup) (h : ∀ x, x ∈ a → x ∉ b) : (a ++ b).Nodup := by
  rw [List.nodup_append]
  exact ⟨ha, hb, fun x hx y hy e => h x hx (e ▸ hy)⟩
theorem RG.nd_of {g : RG} (h : SepD g.D) : g.F.Nodup := by
  have n1 : ∀ x, x ∈ blkOf g.wad → x ∉ blkOf g.oad := fun x => h 3 4 x (by simp)
  have n2 : ∀ x, x ∈ blkOf g.tad → x ∉ blkOf g.wad ++ blkOf g.oad := fun x hx hx2 => by
    rcases List.mem_append.1 hx2 with q | q
    · exact h 2 3 x (by simp) hx q
    · exact h 2 4 x (by simp) hx q
  have n3 : ∀ x, x ∈ blkOf g.pad → x ∉ blkOf g.tad ++ (blkOf g.wad ++ blkOf g.oad) := fun x hx hx2 => by
    rcases List.mem_append.1 hx2 with q | q
    · exact h 1 2 x (by simp) hx q
    rcases List.mem_append.1 q with q | q
    · exact h 1 3 x (by simp) hx q
    · exact h 1 4 x (by simp) hx q
  unfold RG.F
  rw [List.nodup_cons]
  refine ⟨fun hm => ?_, nodup_app (nodup_blk _) (nodup_app (nodup_blk _) (nodup_app (nodup_blk _) (nodup_blk _) n1) n2) n3⟩
  have hp : g.p ∈ g.D 0 := by simp [RG.D]
  rcases List.mem_append.1 hm with q | q
  · exact h 0 1 _ (by simp) hp q
  rcases List.mem_append.1 q with q | q
  · exact h 0 2 _ (by simp) hp q
  rcases List.mem_append.1 q with q | q
  · exact h 0 3 _ (by simp) hp q
  · exact h 0 4 _ (by simp) hp q
/-- a checker that is being made -/
structure PN (w0 w : World) (g : RG) (s : Shp) (np no : Nat) (nt : List Std) (nw : Nat) : Prop where
  hdr : Blk w g.p [I s.th, I s.va, I s.vo, I s.lo, .slice g.pad np g.pcap, .slice g.tad nt.length g.tcap, .slice g.wad nw g.wcap, .slice g.oad no g.ocap, I 0] 210
  pa : OwnS w 3 1 g.pad np g.pcap ((s.pa.take np).map I)
  th : OwnS w 136 3 g.tad nt.length g.tcap (nt.flatMap stdC)
  lo : OwnS w 3 1 g.wad nw g.wcap ((List.replicate nw (-1 : Int)).map I)
  op : OwnS w 131 2 g.oad no g.ocap ((List.replicate no ((0, 0) : Int × Int)).flatMap opC2)
  sep : SepD g.D
  new : ∀ i b, b ∈ g.D i → w0.heap.size ≤ b
  kk : Kp [] w0 w
section
variable {w0 : World} {g : RG} {s : Shp} {np no nw : Nat} {nt : List Std}
theorem PN.lt (h : PN w0 w g s np no nt nw) : ∀ i b, b ∈ g.D i → b < w.heap.size := by
  intro i b hb
  match i with
  | 0 => simp [RG.D] at hb; subst hb; exact h.hdr.lt
  | 1 => exact h.pa.lt b hb
  | 2 => exact h.th.lt b hb
  | 3 => exact h.lo.lt b hb
  | 4 => exact h.op.lt b hb
  | n + 5 => simp [RG.D] at hb
theorem PN.kp0 {w' : World} (h : PN w0 w g s np no nt nw) (hk : Kp [] w w') : PN w0 w' g s np no nt nw :=
  ⟨hk.blk (by simp) h.hdr, h.pa.kp hk (by simp), h.th.kp hk (by simp), h.lo.kp hk (by simp), h.op.kp hk (by simp), h.sep, h.new, h.kk.trans hk⟩
theorem PN.pne (h : PN w0 w g s np no nt nw) {i : Nat} (hi : i ≠ 0) : g.p ∉ g.D i := h.sep 0 i g.p hi.symm (by simp [RG.D])
/-- behind an append to one of the rows (its number k), and the store of it -/
theorem PN.parts {w1 w2 : World} {L : List Value} {k : Nat} (h : PN w0 w g s np no nt nw) (hk0 : k ≠ 0) (k1 : Kp (g.D k) w w1) (hu : Upd w1 g.p (.cells ⟨L⟩ 210 (0, 0)) w2) : Kp [] w0 w2 := by
  have h2 : Kp (g.D k ++ [g.p]) w w2 := (k1.mono (fun b hb => by simp [hb])).trans (hu.kp _ (.inl (by simp)))
  refine h.kk.since h2 (fun b hb => ?_)
  rcases List.mem_append.1 hb with q | q
  · exact h.new k b q
  · simp at q; subst q; exact h.new 0 _ (by simp [RG.D])
theorem PN.pushP {ad' : Option Addr} {cap' : Nat} {w1 w2 : World} (h : PN w0 w g s np no nt nw) (ho : OwnS w1 3 1 ad' (np + 1) cap' ((s.pa.take (np + 1)).map I)) (k1 : Kp (blkOf g.pad) w w1) (hn : ∀ b, b ∈ blkOf ad' → b ∈ blkOf g.pad ∨ w.heap.size ≤ b) (hu : Upd w1 g.p (.cells ⟨[I s.th, I s.va, I s.vo, I s.lo, .slice ad' (np + 1) cap', .slice g.tad nt.length g.tcap, .slice g.wad nw g.wcap, .slice g.oad no g.ocap, I 0]⟩ 210 (0, 0)) w2) : PN w0 w2 { g with pad := ad', pcap := cap' } s (np + 1) no nt nw := by
  have hkp : Kp (g.D 1 ++ [g.p]) w w2 := ((show Kp (g.D 1) w w1 from k1).mono (fun b hb => by simp [hb])).trans (hu.kp _ (.inl (by simp)))
  have hpl := h.hdr.lt
  have hpn : g.p ∉ blkOf ad' := fun hb => by
    rcases hn _ hb with q | q
    · exact h.pne (i := 1) (by simp) q
    · omega
  refine ⟨hu.blk, ho.upd hu hpn, (h.th.kp hkp (fun b hb hb2 => by
    rcases List.mem_append.1 hb2 with q | q
    · exact h.sep 2 1 b (by simp) hb q
    · simp at q; subst q; exact h.pne (i := 2) (by simp) hb)), (h.lo.kp hkp (fun b hb hb2 => by
    rcases List.mem_append.1 hb2 with q | q
    · exact h.sep 3 1 b (by simp) hb q
    · simp at q; subst q; exact h.pne (i := 3) (by simp) hb)), (h.op.kp hkp (fun b hb hb2 => by
    rcases List.mem_append.1 hb2 with q | q
    · exact h.sep 4 1 b (by simp) hb q
    · simp at q; subst q; exact h.pne (i := 4) (by simp) hb)), h.sep.upd h.lt 1 (fun i hi => ?_) hn, fun i b hb => ?_, h.parts (k := 1) (by simp) k1 hu⟩
  · match i, hi with
    | 0, _ => rfl
    | 1, hi => first | rfl | exact absurd rfl hi
    | 2, hi => first | rfl | exact absurd rfl hi
    | 3, hi => first | rfl | exact absurd rfl hi
    | 4, hi => first | rfl | exact absurd rfl hi
    | n + 5, _ => rfl
  · by_cases hi : i = 1
    · subst hi
      rcases hn b hb with q | q
      · exact h.new 1 b q
      · have := h.kk.size; omega
    · refine h.new i b ?_
      match i, hi with
      | 0, _ => exact hb
      | 1, hi => first | exact absurd rfl hi | exact hb
      | 2, hi => first | exact absurd rfl hi | exact hb
      | 3, hi => first | exact absurd rfl hi | exact hb
      | 4, hi => first | exact absurd rfl hi | exact hb
      | n + 5, _ => exact hb
theorem PN.pushT {y : Std} {ad' : Option Addr} {cap' : Nat} {w1 w2 : World} (h : PN w0 w g s np no nt nw) (ho : OwnS w1 136 3 ad' (nt.length + 1) cap' ((nt ++ [y]).flatMap stdC)) (k1 : Kp (blkOf g.tad) w w1) (hn : ∀ b, b ∈ blkOf ad' → b ∈ blkOf g.tad ∨ w.heap.size ≤ b) (hu : Upd w1 g.p (.cells ⟨[I s.th, I s.va, I s.vo, I s.lo, .slice g.pad np g.pcap, .slice ad' (nt.length + 1) cap', .slice g.wad nw g.wcap, .slice g.oad no g.ocap, I 0]⟩ 210 (0, 0)) w2) : PN w0 w2 { g with tad := ad', tcap := cap' } s np no (nt ++ [y]) nw := by
  have el : (nt ++ [y]).length = nt.length + 1 := by simp
  have hkp : Kp (g.D 2 ++ [g.p]) w w2 := ((show Kp (g.D 2) w w1 from k1).mono (fun b hb => by simp [hb])).trans (hu.kp _ (.inl (by simp)))
  have hpl := h.hdr.lt
  have hpn : g.p ∉ blkOf ad' := fun hb => by
    rcases hn _ hb with q | q
    · exact h.pne (i := 2) (by simp) q
    · omega
  refine ⟨by rw [el]; exact hu.blk, (h.pa.kp hkp (fun b hb hb2 => by
    rcases List.mem_append.1 hb2 with q | q
    · exact h.sep 1 2 b (by simp) hb q
    · simp at q; subst q; exact h.pne (i := 1) (by simp) hb)), by rw [el]; exact ho.upd hu hpn, (h.lo.kp hkp (fun b hb hb2 => by
    rcases List.mem_append.1 hb2 with q | q
    · exact h.sep 3 2 b (by simp) hb q
    · simp at q; subst q; exact h.pne (i := 3) (by simp) hb)), (h.op.kp hkp (fun b hb hb2 => by
    rcases List.mem_append.1 hb2 with q | q
    · exact h.sep 4 2 b (by simp) hb q
    · simp at q; subst q; exact h.pne (i := 4) (by simp) hb)), h.sep.upd h.lt 2 (fun i hi => ?_) hn, fun i b hb => ?_, h.parts (k := 2) (by simp) k1 hu⟩
  · match i, hi with
    | 0, _ => rfl
    | 1, hi => first | rfl | exact absurd rfl hi
    | 2, hi => first | rfl | exact absurd rfl hi
    | 3, hi => first | rfl | exact absurd rfl hi
    | 4, hi => first | rfl | exact absurd rfl hi
    | n + 5, _ => rfl
  · by_cases hi : i = 2
    · subst hi
      rcases hn b hb with q | q
      · exact h.new 2 b q
      · have := h.kk.size; omega
    · refine h.new i b ?_
      match i, hi with
      | 0, _ => exact hb
      | 1, hi => first | exact absurd rfl hi | exact hb
      | 2, hi => first | exact absurd rfl hi | exact hb
      | 3, hi => first | exact absurd rfl hi | exact hb
      | 4, hi => first | exact absurd rfl hi | exact hb
      | n + 5, _ => exact hb
theorem PN.pushW {ad' : Option Addr} {cap' : Nat} {w1 w2 : World} (h : PN w0 w g s np no nt nw) (ho : OwnS w1 3 1 ad' (nw + 1) cap' ((List.replicate (nw + 1) (-1 : Int)).map I)) (k1 : Kp (blkOf g.wad) w w1) (hn : ∀ b, b ∈ blkOf ad' → b ∈ blkOf g.wad ∨ w.heap.size ≤ b) (hu : Upd w1 g.p (.cells ⟨[I s.th, I s.va, I s.vo, I s.lo, .slice g.pad np g.pcap, .slice g.tad nt.length g.tcap, .slice ad' (nw + 1) cap', .slice g.oad no g.ocap, I 0]⟩ 210 (0, 0)) w2) : PN w0 w2 { g with wad := ad', wcap := cap' } s np no nt (nw + 1) := by
  have hkp : Kp (g.D 3 ++ [g.p]) w w2 := ((show Kp (g.D 3) w w1 from k1).mono (fun b hb => by simp [hb])).trans (hu.kp _ (.inl (by simp)))
  have hpl := h.hdr.lt
  have hpn : g.p ∉ blkOf ad' := fun hb => by
    rcases hn _ hb with q | q
    · exact h.pne (i := 3) (by simp) q
    · omega
  refine ⟨hu.blk, (h.pa.kp hkp (fun b hb hb2 => by
    rcases List.mem_append.1 hb2 with q | q
    · exact h.sep 1 3 b (by simp) hb q
    · simp at q; subst q; exact h.pne (i := 1) (by simp) hb)), (h.th.kp hkp (fun b hb hb2 => by
    rcases List.mem_append.1 hb2 with q | q
    · exact h.sep 2 3 b (by simp) hb q
    · simp at q; subst q; exact h.pne (i := 2) (by simp) hb)), ho.upd hu hpn, (h.op.kp hkp (fun b hb hb2 => by
    rcases List.mem_append.1 hb2 with q | q
    · exact h.sep 4 3 b (by simp) hb q
    · simp at q; subst q; exact h.pne (i := 4) (by simp) hb)), h.sep.upd h.lt 3 (fun i hi => ?_) hn, fun i b hb => ?_, h.parts (k := 3) (by simp) k1 hu⟩
  · match i, hi with
    | 0, _ => rfl
    | 1, hi => first | rfl | exact absurd rfl hi
    | 2, hi => first | rfl | exact absurd rfl hi
    | 3, hi => first | rfl | exact absurd rfl hi
    | 4, hi => first | rfl | exact absurd rfl hi
    | n + 5, _ => rfl
  · by_cases hi : i = 3
    · subst hi
      rcases hn b hb with q | q
      · exact h.new 3 b q
      · have := h.kk.size; omega
    · refine h.new i b ?_
      match i, hi with
      | 0, _ => exact hb
      | 1, hi => first | exact absurd rfl hi | exact hb
      | 2, hi => first | exact absurd rfl hi | exact hb
      | 3, hi => first | exact absurd rfl hi | exact hb
      | 4, hi => first | exact absurd rfl hi | exact hb
      | n + 5, _ => exact hb
theorem PN.pushO {ad' : Option Addr} {cap' : Nat} {w1 w2 : World} (h : PN w0 w g s np no nt nw) (ho : OwnS w1 131 2 ad' (no + 1) cap' ((List.replicate (no + 1) ((0, 0) : Int × Int)).flatMap opC2)) (k1 : Kp (blkOf g.oad) w w1) (hn : ∀ b, b ∈ blkOf ad' → b ∈ blkOf g.oad ∨ w.heap.size ≤ b) (hu : Upd w1 g.p (.cells ⟨[I s.th, I s.va, I s.vo, I s.lo, .slice g.pad np g.pcap, .slice g.tad nt.length g.tcap, .slice g.wad nw g.wcap, .slice ad' (no + 1) cap', I 0]⟩ 210 (0, 0)) w2) : PN w0 w2 { g with oad := ad', ocap := cap' } s np (no + 1) nt nw := by
  have hkp : Kp (g.D 4 ++ [g.p]) w w2 := ((show Kp (g.D 4) w w1 from k1).mono (fun b hb => by simp [hb])).trans (hu.kp _ (.inl (by simp)))
  have hpl := h.hdr.lt
  have hpn : g.p ∉ blkOf ad' := fun hb => by
    rcases hn _ hb with q | q
    · exact h.pne (i := 4) (by simp) q
    · omega
  refine ⟨hu.blk, (h.pa.kp hkp (fun b hb hb2 => by
    rcases List.mem_append.1 hb2 with q | q
    · exact h.sep 1 4 b (by simp) hb q
    · simp at q; subst q; exact h.pne (i := 1) (by simp) hb)), (h.th.kp hkp (fun b hb hb2 => by
    rcases List.mem_append.1 hb2 with q | q
    · exact h.sep 2 4 b (by simp) hb q
    · simp at q; subst q; exact h.pne (i := 2) (by simp) hb)), (h.lo.kp hkp (fun b hb hb2 => by
    rcases List.mem_append.1 hb2 with q | q
    · exact h.sep 3 4 b (by simp) hb q
    · simp at q; subst q; exact h.pne (i := 3) (by simp) hb)), ho.upd hu hpn, h.sep.upd h.lt 4 (fun i hi => ?_) hn, fun i b hb => ?_, h.parts (k := 4) (by simp) k1 hu⟩
  · match i, hi with
    | 0, _ => rfl
    | 1, hi => first | rfl | exact absurd rfl hi
    | 2, hi => first | rfl | exact absurd rfl hi
    | 3, hi => first | rfl | exact absurd rfl hi
    | 4, hi => first | rfl | exact absurd rfl hi
    | n + 5, _ => rfl
  · by_cases hi : i = 4
    · subst hi
      rcases hn b hb with q | q
      · exact h.new 4 b q
      · have := h.kk.size; omega
    · refine h.new i b ?_
      match i, hi with
      | 0, _ => exact hb
      | 1, hi => first | exact absurd rfl hi | exact hb
      | 2, hi => first | exact absurd rfl hi | exact hb
      | 3, hi => first | exact absurd rfl hi | exact hb
      | 4, hi => first | exact absurd rfl hi | exact hb
      | n + 5, _ => exact hb
theorem PN.setT {w2 : World} {b : Nat} {o : Obj} {nt' : List Std} (h : PN w0 w g s np no nt nw) (hl : nt'.length = nt.length) (hb : g.tad = some ⟨b, 0, none⟩) (hu : Upd w b o w2) (ho : OwnS w2 136 3 g.tad nt'.length g.tcap (nt'.flatMap stdC)) : PN w0 w2 g s np no nt' nw := by
  have hbt : b ∈ g.D 2 := by show b ∈ blkOf g.tad; rw [hb]; simp [blkOf]
  have k : Kp [b] w w2 := hu.kp _ (.inl (by simp))
  have sp : ∀ i, i ≠ 2 → ∀ c, c ∈ g.D i → c ∉ [b] := fun i hi c hc hc2 => by simp at hc2; subst hc2; exact h.sep i 2 _ hi hc hbt
  exact ⟨by rw [hl]; exact k.blk (sp 0 (by simp) _ (by simp [RG.D])) h.hdr, h.pa.kp k (sp 1 (by simp)), ho, h.lo.kp k (sp 3 (by simp)), h.op.kp k (sp 4 (by simp)), h.sep, h.new, h.kk.since k (fun c hc => by simp at hc; subst hc; exact h.new 2 _ hbt)⟩
end
end Go.Vc
/- abreastref19: New. -/
namespace Go.Vc
open Go Go.Proofs
set_option maxRecDepth 10000
variable {w : World} {s : Shp}
theorem newC_nz : ∀ t x, (newC s).T t = some x → x.ph ≠ 0 := fun t x h => by
  rcases upT_cases (show upT (fun _ => none) 0 (some ⟨1, 0, 0⟩) t = some x from h) with ⟨_, e⟩ | ⟨_, e⟩
  · cases e; simp
  · cases e
theorem thL_zero : (List.replicate s.th.toNat (⟨0, 0, 0⟩ : Std)) = thL s { newC s with T := fun _ => none } := by
  unfold thL st
  apply List.ext_getElem?
  intro i
  rw [List.getElem?_replicate, List.getElem?_map]
  by_cases hi : i < s.th.toNat
  · rw [if_pos hi, List.getElem?_range hi]; rfl
  · rw [if_neg hi, List.getElem?_eq_none (by simp; omega)]; rfl
theorem loL_zero : (List.replicate s.lo.toNat (-1 : Int)) = loL s (newC s) := by
  unfold loL
  apply List.ext_getElem?
  intro i
  rw [List.getElem?_replicate, List.getElem?_map]
  by_cases hi : i < s.lo.toNat
  · rw [if_pos hi, List.getElem?_range hi]; rfl
  · rw [if_neg hi, List.getElem?_eq_none (by simp; omega)]; rfl
theorem map_zero2 : ∀ l : List Int, List.replicate l.length ((0, 0) : Int × Int) = l.map fun _ => (0, 0)
  | [] => rfl
  | _ :: r => by rw [List.map_cons, ← map_zero2 r]; rfl
theorem fl_succ {α : Type} (f : α → List Value) (n : Nat) (x : α) : (List.replicate (n + 1) x).flatMap f = (List.replicate n x).flatMap f ++ f x := by
  rw [List.replicate_succ', List.flatMap_append]; simp
set_option maxHeartbeats 6400000 in
theorem rNew_ret {pad : Option Addr} {cap : Nat} (hr : ReadS w pad (s.pa.map I)) (hl : s.pa.length ≤ 1048576) :
    Ret Tryz.prog 50 [.agg ⟨shC s pad cap⟩] w (fun v w' => (shapeB s = false ∧ v = .tuple #[.pointer none, I 5] ∧ Kp [] w w') ∨ (shapeB s = true ∧ ∃ g, v = .tuple #[ptr g.p, I 0] ∧ RAt w' g s (newC s) ∧ Kp [] w w' ∧ ∀ b, b ∈ g.F → w.heap.size ≤ b)) := by
  refine enter Tryz.call50 Tryz.func50 rfl rfl rfl rfl ?_
  (repeat first|refine zA ?_|refine zg ?_)
  refine o_box rfl rfl rfl ?_
  intro bx w1 hbx hu1
  have hB1 : Blk w1 bx (shC s pad cap) 27 := hu1.blk
  have k1 : Kp [] w w1 := hu1.kp [] (.inr (by omega))
  have hr1 := hr.kp k1 (by simp)
  (repeat first|refine zA ?_|refine zg ?_|refine zo rfl rfl trivial ?_|refine zn ?_)
  refine o_loadA (vs := shC s pad cap) rfl (fun j v hv => ?_) rfl rfl rfl rfl rfl rfl ?_
  · rw [Nat.zero_add]; exact hB1.cell hv
  refine o_call (rShape_ret hr1 (by omega)) rfl rfl rfl ?_
  rintro v w2 ⟨rfl, k2⟩
  have k02 := k1.trans k2
  have hB2 := k2.blk (by simp) hB1
  have hr2 := hr1.kp k2 (by simp)
  have hbx2 := hB2.lt
  (repeat first|refine zA ?_|refine zB ?_|refine zg ?_|refine zo rfl rfl trivial ?_|refine zn ?_)
  cases hs : shapeB s with
  | false =>
    simp only [Bool.false_eq_true, if_false]
    (repeat first|refine zA ?_|refine zg ?_|refine zo rfl rfl trivial ?_|refine zn ?_|refine zr ?_|refine zt rfl ?_)
    exact ⟨_, rfl, .inl ⟨trivial, rfl, k02⟩⟩
  | true =>
  simp only [if_true]
  have hso := (shapeB_iff s).1 hs
  have hth := hso.1
  have hlo := hso.2.2.2.1
  have hpa := hso.2.2.2.2.1
  (repeat first|refine zA ?_|refine zg ?_|refine zk ?_|refine zf rfl ?_)
  refine o_loadA (vs := shC s pad cap) rfl (fun j v hv => ?_) rfl rfl rfl rfl rfl rfl ?_
  · rw [Nat.zero_add]; exact hB2.cell hv
  refine o_build [I s.th, I s.va, I s.vo, I s.lo, .slice pad s.pa.length cap, .slice none 0 0, .slice none 0 0, .slice none 0 0, I 0] rfl rfl rfl rfl rfl rfl rfl ?_
  refine o_box rfl rfl rfl ?_
  intro p w3 hp hu3
  (repeat first|refine zA ?_|refine zg ?_|refine zo rfl rfl trivial ?_|refine zn ?_)
  refine o_store (b := p) (off := 4) (v := .slice none 0 0) (c := none) rfl hu3.blk (by simp [Value.cells]) rfl rfl rfl rfl rfl rfl ?_
  intro w4 hu4
  have hP4 : PN w2 w4 ⟨p, none, 0, none, 0, none, 0, none, 0⟩ s 0 0 [] 0 := by
    refine ⟨hu4.blk, ownS_nil _ _ _, ownS_nil _ _ _, ownS_nil _ _ _, ownS_nil _ _ _, fun i j b hij hb hb2 => ?_, fun i b hb => ?_, (hu3.kp [] (.inr (by omega))).since (hu4.kp [p] (.inl (by simp))) (by simp; omega)⟩
    · match i, j, hij with
      | 0, 0, h => exact h rfl
      | 0, 1, _ => simp [RG.D, blkOf] at hb2
      | 0, 2, _ => simp [RG.D, blkOf] at hb2
      | 0, 3, _ => simp [RG.D, blkOf] at hb2
      | 0, 4, _ => simp [RG.D, blkOf] at hb2
      | 0, n + 5, _ => simp [RG.D] at hb2
      | 1, _, _ => simp [RG.D, blkOf] at hb
      | 2, _, _ => simp [RG.D, blkOf] at hb
      | 3, _, _ => simp [RG.D, blkOf] at hb
      | 4, _, _ => simp [RG.D, blkOf] at hb
      | n + 5, _, _ => simp [RG.D] at hb
    · match i with
      | 0 => simp [RG.D] at hb; omega
      | 1 => simp [RG.D, blkOf] at hb
      | 2 => simp [RG.D, blkOf] at hb
      | 3 => simp [RG.D, blkOf] at hb
      | 4 => simp [RG.D, blkOf] at hb
      | n + 5 => simp [RG.D] at hb
  (repeat first|refine zA ?_|refine zB ?_|refine zg ?_|refine zo rfl rfl trivial ?_|refine zn ?_|refine zb ?_)
  refine r_loop (α := Nat) [1, 5, 6] (fun i => [ptr bx, ptr p, I i]) (fun i wc => i ≤ s.pa.length ∧ ∃ g, g.p = p ∧ PN w2 wc g s i i [] 0) (fun i => s.pa.length - i) 0 rfl ⟨by omega, _, rfl, hP4⟩ ?_
  rintro i e w5 ⟨hi, g, rfl, h5⟩
  have hB5 := h5.kk.blk (by simp) hB2
  (repeat first|refine zA ?_|refine zB ?_|refine zg ?_|refine zo rfl rfl trivial ?_)
  refine o_load (v := .slice pad s.pa.length cap) rfl hB5 rfl rfl rfl rfl rfl ?_
  (repeat first|refine zo rfl rfl trivial ?_|refine zn ?_)
  refine r_if rfl (fun hc => ?_) (fun hc => ?_)
  · have hlt : i < s.pa.length := by omega
    obtain ⟨x, hx⟩ : ∃ x, s.pa[i]? = some x := ⟨_, List.getElem?_eq_getElem hlt⟩
    obtain ⟨b0, off0, rfl, hb0, hcell⟩ := hr2.at_ (by simp; omega)
    have hcx := hcell i (I x) (by rw [List.getElem?_map, hx]; rfl)
    have htk : s.pa.take (i + 1) = s.pa.take i ++ [x] := by rw [List.take_add_one, hx]; rfl
    (repeat first|refine zC ?_|refine zb ?_|refine zk ?_)
    refine r_seq ?_
    refine r_cut (α := RG) [1, 5, 6] (fun g' => [ptr bx, ptr g'.p, I i]) (fun g' w' => PN w2 w' g' s (i + 1) i [] 0 ∧ g'.p = g.p) ?_ ?_
    · refine r_mix (fun w' => Kp (blkOf g.pad) w5 w') [(0, false), (1, false), (2, false), (3, false), (4, false), (5, false), (6, false), (7, false), (8, false), (9, false), (10, false), (11, true), (12, true), (13, false), (14, false), (15, false), (16, true)] follows_mixed (by kernel_rfl) (by kernel_rfl) (by kernel_rfl) ((Sm.drew w5).kp _) ?_
      have hd := h5.kp0 ((Sm.drew w5).kp [])
      have kd := (Sm.drew w5).kp (blkOf g.pad)
      generalize ({ w5 with drawn := w5.drawn + 1 } : World) = wd at hd kd ⊢
      have hz5 := h5.kk.size
      have hnp : g.p ∉ blkOf g.pad := h5.pne (i := 1) (by simp)
      have hbxp : bx ∉ blkOf g.pad := fun hb => by have := h5.new 1 bx hb; omega
      have hb0p : b0 ∉ blkOf g.pad := fun hb => by have := h5.new 1 b0 hb; omega
      (repeat refine xo rfl rfl trivial ?_)
      refine x_load (v := .slice g.pad i g.pcap) rfl rfl (fun w' h' => (h'.blk hnp h5.hdr).cell rfl) rfl rfl rfl rfl ?_
      (repeat refine xo rfl rfl trivial ?_)
      refine x_load (v := .slice (some ⟨b0, off0, none⟩) s.pa.length cap) rfl rfl (fun w' h' => (h'.blk hbxp hB5).cell rfl) rfl rfl rfl rfl ?_
      (repeat refine xo rfl rfl (by first|exact trivial|(simp only[AllP];omega)) ?_)
      refine x_load (b := b0) (off := off0 + i) (v := I x) rfl rfl (fun w' h' => ?_) rfl rfl rfl rfl ?_
      · rw [← hcx]; exact World.cell?_of_block ((h'.at_ b0 (by omega) hb0p).trans (h5.kk.at_ b0 hb0 (by simp)))
      refine x_act rfl ?_
      refine o_buildSlice [I x] rfl (by simp [Value.oneCell']) rfl (by decide) (by decide) rfl rfl rfl rfl rfl ?_
      intro b7 w7 hb7 hu7
      have k7 : Kp [] wd w7 := hu7.kp [] (.inr (by omega))
      have h7 := hd.kp0 k7
      have kd7 := kd.trans (k7.mono (by simp))
      refine o_nil ⟨.inr kd7, ?_⟩
      refine x_act rfl ?_
      refine o_append1 rfl rfl h7.pa hu7.blk rfl rfl rfl rfl (by simp only [maxLen]; omega) (by omega) rfl rfl ?_
      intro ad8 cap8 w8 ho8 k8 hn8
      refine o_nil ⟨.inr (kd7.trans k8), ?_⟩
      (repeat refine xo rfl rfl trivial ?_)
      refine x_act rfl ?_
      have hH8 := k8.blk (h7.pne (i := 1) (by simp)) h7.hdr
      refine o_store (b := g.p) (off := 4) (v := .slice ad8 (i + 1) cap8) (c := none) rfl hH8 (by simp) rfl rfl rfl rfl rfl rfl ?_
      intro w9 hu9
      have h9 := h7.pushP (by rw [htk, List.map_append]; exact ho8) k8 hn8 hu9
      refine o_nil ⟨.inl (by kernel_rfl), ?_⟩
      (repeat refine xn ?_)
      exact ⟨{ g with pad := ad8, pcap := cap8 }, rfl, h9, rfl⟩
    · rintro g6 e w6 ⟨h6, hp6⟩
      (repeat first|refine zg ?_|refine zo rfl rfl trivial ?_)
      refine o_load rfl h6.hdr rfl rfl rfl rfl rfl ?_
      refine o_build [I 0, I 0] rfl rfl rfl rfl rfl rfl rfl ?_
      refine o_buildSliceN [I 0, I 0] rfl rfl rfl (by kernel_rfl) rfl rfl rfl rfl ?_
      intro b7 w7 hb7 hu7
      have k7 : Kp [] w6 w7 := hu7.kp [] (.inr (by omega))
      have h7 := h6.kp0 k7
      refine o_append [I 0, I 0] rfl rfl h7.op (fun j v hv => by rw [addr_lit, Nat.zero_add]; exact hu7.blk.cell hv) rfl rfl rfl (by omega) rfl (by omega) (by simp [Value.oneCell']) (by simp only [maxLen]; omega) (by omega) rfl rfl ?_
      intro ad8 cap8 w8 ho8 k8 hn8
      (repeat refine zo rfl rfl trivial ?_)
      have hH8 := k8.blk (h7.pne (i := 4) (by simp)) h7.hdr
      refine o_store (b := g6.p) (off := 7) (v := .slice ad8 (i + 1) cap8) (c := none) rfl hH8 (by simp) rfl rfl rfl rfl rfl rfl ?_
      intro w9 hu9
      have h9 := h7.pushO (by rw [fl_succ]; exact ho8) k8 hn8 hu9
      (repeat first|refine zg ?_|refine zo rfl rfl (by first|exact trivial|(simp only[AllP];omega)) ?_|refine zn ?_)
      exact ⟨i + 1, by dsimp only; rw [hp6]; rfl, ⟨by omega, _, by dsimp only; exact hp6, h9⟩, by omega⟩
  · have hin : i = s.pa.length := by omega
    subst hin
    have hP := h5
    clear h5 hP4
    (repeat first|refine zA ?_|refine zB ?_|refine zg ?_|refine zo rfl rfl trivial ?_|refine zn ?_|refine zb ?_|refine ze rfl ?_)
    refine r_loop (α := Nat) [1, 5, 7] (fun i => [ptr bx, ptr g.p, I i]) (fun i wc => (i : Int) ≤ s.th ∧ ∃ g', g'.p = g.p ∧ PN w2 wc g' s s.pa.length s.pa.length (List.replicate i ⟨0, 0, 0⟩) 0) (fun i => s.th.toNat - i) 0 rfl ⟨by omega, g, rfl, hP⟩ ?_
    rintro i e w6 ⟨hi6, g6, hg6, h6⟩
    have hB6 := h6.kk.blk (by simp) hB2
    (repeat first|refine zA ?_|refine zB ?_|refine zg ?_|refine zo rfl rfl trivial ?_)
    refine o_load (v := I s.th) rfl hB6 rfl rfl rfl rfl rfl ?_
    (repeat first|refine zo rfl rfl trivial ?_|refine zn ?_)
    rw [← hg6]
    refine r_if rfl (fun hc6 => ?_) (fun hc6 => ?_)
    · have hh6 := h6.hdr
      rw [List.length_replicate] at hh6
      (repeat first|refine zC ?_|refine zg ?_|refine zo rfl rfl trivial ?_|refine zb ?_|refine zk ?_)
      refine o_load rfl hh6 rfl rfl rfl rfl rfl ?_
      refine o_build [I 0, I 0, I 0] rfl rfl rfl rfl rfl rfl rfl ?_
      refine o_buildSliceN [I 0, I 0, I 0] rfl rfl rfl (by kernel_rfl) rfl rfl rfl rfl ?_
      intro b7 w7 hb7 hu7
      have k7 : Kp [] w6 w7 := hu7.kp [] (.inr (by omega))
      have h7 := h6.kp0 k7
      have hth7 := h7.th
      rw [List.length_replicate] at hth7
      refine o_append [I 0, I 0, I 0] rfl rfl hth7 (fun j v hv => by rw [addr_lit, Nat.zero_add]; exact hu7.blk.cell hv) rfl rfl rfl (by omega) rfl (by omega) (by simp [Value.oneCell']) (by simp only [maxLen]; omega) (by omega) rfl rfl ?_
      intro ad8 cap8 w8 ho8 k8 hn8
      (repeat refine zo rfl rfl trivial ?_)
      have hH8 := k8.blk (h7.pne (i := 2) (by simp)) h7.hdr
      refine o_store (b := g6.p) (off := 5) (v := .slice ad8 (i + 1) cap8) (c := none) rfl hH8 (by simp) rfl rfl rfl rfl rfl rfl ?_
      intro w9 hu9
      have h9 := h7.pushT (y := ⟨0, 0, 0⟩) (by rw [List.length_replicate, List.flatMap_append]; exact ho8) k8 hn8 (by rw [List.length_replicate]; exact hu9)
      (repeat first|refine zg ?_|refine zo rfl rfl (by first|exact trivial|(simp only[AllP];omega)) ?_|refine zn ?_)
      exact ⟨i + 1, rfl, ⟨by omega, { g6 with tad := ad8, tcap := cap8 }, rfl, by rw [List.replicate_succ']; exact h9⟩, by omega⟩
    · have hin6 : i = s.th.toNat := by omega
      subst hin6
      have hz6 := h6.th
      obtain ⟨tb, TL, hta, hTL, hTlen, hTget, hTset⟩ := hz6.rec (fun _ => rfl) (by omega) (i := 0) (by rw [List.length_replicate]; omega)
      have hTget0 := hTget ⟨0, 0, 0⟩ (by rw [List.getElem?_replicate, if_pos (by omega)])
      have hh6 := h6.hdr
      rw [List.length_replicate, hta] at hh6
      (repeat first|refine zA ?_|refine zg ?_|refine zo rfl rfl trivial ?_|refine ze rfl ?_)
      refine o_load (v := .slice (some ⟨tb, 0, none⟩) s.th.toNat g6.tcap) rfl hh6 rfl rfl rfl rfl rfl ?_
      (repeat refine zo rfl rfl (by first|exact trivial|(simp only[AllP];omega)) ?_)
      refine o_store (b := tb) (off := 0) (v := I 1) (c := none) rfl hTL (by omega) rfl rfl rfl rfl rfl rfl ?_
      intro w7 hu7
      have ec := set_many_cell TL (o := 0 * 3) (j := 0) (cs := stdC ⟨0, 0, 0⟩) (v := I 1) hTget0 (by simpa using hTlen) (by simp)
      have ec2 : setMany TL (0 * 3) (stdC ⟨1, 0, 0⟩) = TL.set 0 (I 1) := ec
      rw [← ec2] at hu7
      have h7 := h6.setT (nt' := (List.replicate s.th.toNat ⟨0, 0, 0⟩).set 0 ⟨1, 0, 0⟩) (by simp) hta hu7 (by rw [List.length_set]; exact hTset ⟨1, 0, 0⟩ _ hu7)
      have e7 : (List.replicate s.th.toNat (⟨0, 0, 0⟩ : Std)).set 0 ⟨1, 0, 0⟩ = thL s (newC s) := by
        rw [thL_zero]
        exact (thL_set (c := { newC s with T := fun _ => none }) (t := 0) (y := ⟨1, 0, 0⟩) (by omega)).symm
      rw [e7] at h7
      (repeat first|refine zA ?_|refine zB ?_|refine zg ?_|refine zo rfl rfl trivial ?_|refine zn ?_|refine zb ?_)
      refine r_loop (α := Nat) [1, 5, 8] (fun i => [ptr bx, ptr g6.p, I i]) (fun i wc => (i : Int) ≤ s.lo ∧ ∃ g', g'.p = g6.p ∧ PN w2 wc g' s s.pa.length s.pa.length (thL s (newC s)) i) (fun i => s.lo.toNat - i) 0 rfl ⟨by omega, g6, rfl, h7⟩ ?_
      rintro i e w8 ⟨hi8, g8, hg8, h8⟩
      have hB8 := h8.kk.blk (by simp) hB2
      (repeat first|refine zA ?_|refine zB ?_|refine zg ?_|refine zo rfl rfl trivial ?_)
      refine o_load (v := I s.lo) rfl hB8 rfl rfl rfl rfl rfl ?_
      (repeat first|refine zo rfl rfl trivial ?_|refine zn ?_)
      rw [← hg8]
      refine r_if rfl (fun hc8 => ?_) (fun hc8 => ?_)
      · (repeat first|refine zC ?_|refine zg ?_|refine zo rfl rfl trivial ?_|refine zb ?_|refine zk ?_)
        refine o_load rfl h8.hdr rfl rfl rfl rfl rfl ?_
        refine o_buildSlice [I (-1)] rfl (by simp [Value.oneCell']) rfl (by decide) (by decide) rfl rfl rfl rfl rfl ?_
        intro b9 w9 hb9 hu9
        have k9 : Kp [] w8 w9 := hu9.kp [] (.inr (by omega))
        have h9 := h8.kp0 k9
        refine o_append1 rfl rfl h9.lo hu9.blk rfl rfl rfl rfl (by simp only [maxLen]; omega) (by omega) rfl rfl ?_
        intro ad10 cap10 w10 ho10 k10 hn10
        (repeat refine zo rfl rfl trivial ?_)
        have hH10 := k10.blk (h9.pne (i := 3) (by simp)) h9.hdr
        refine o_store (b := g8.p) (off := 6) (v := .slice ad10 (i + 1) cap10) (c := none) rfl hH10 (by simp) rfl rfl rfl rfl rfl rfl ?_
        intro w11 hu11
        have h11 := h9.pushW (by rw [List.replicate_succ', List.map_append]; exact ho10) k10 hn10 hu11
        (repeat first|refine zg ?_|refine zo rfl rfl (by first|exact trivial|(simp only[AllP];omega)) ?_|refine zn ?_)
        exact ⟨i + 1, rfl, ⟨by omega, { g8 with wad := ad10, wcap := cap10 }, rfl, h11⟩, by omega⟩
      · have hin8 : i = s.lo.toNat := by omega
        subst hin8
        (repeat first|refine zA ?_|refine zg ?_|refine zo rfl rfl trivial ?_|refine zn ?_|refine ze rfl ?_|refine zr ?_)
        have hthl := thL_len s (newC s)
        refine ⟨_, rfl, .inr ⟨trivial, g8, rfl, ⟨⟨?_, ?_, ?_, ?_, ?_, RG.nd_of h8.sep⟩, newC_ok hso, newC_nz⟩, k02.trans h8.kk, fun b hb => ?_⟩⟩
        · have := h8.hdr
          rw [hthl] at this
          simpa [rgC, newC] using this
        · have := h8.pa
          rwa [List.take_length] at this
        · have := h8.th
          rwa [hthl] at this
        · have := h8.lo
          rwa [loL_zero] at this
        · have := h8.op
          rw [map_zero2] at this
          simpa [newC] using this
        · have hz := k02.size
          simp only [RG.F, List.mem_cons, List.mem_append] at hb
          rcases hb with rfl | hb | hb | hb | hb
          · have := h8.new 0 g8.p (by simp [RG.D]); omega
          · have := h8.new 1 b hb; omega
          · have := h8.new 2 b hb; omega
          · have := h8.new 3 b hb; omega
          · have := h8.new 4 b hb; omega
end Go.Vc
