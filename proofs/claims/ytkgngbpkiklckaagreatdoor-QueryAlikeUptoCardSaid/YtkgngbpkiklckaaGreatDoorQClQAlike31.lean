/- abreastref19: a checker in memory (the same plain model as feasible's); below, count, Shape, Full, Can. -/
import Derived.Test.YtkgngbpkiklckaaGreatDoorQClQAlike13
import Derived.Test.YtkgngbpkiklckaaGreatDoorQClQAlike30
import Derived.Test.YtkgngbpkiklckaaGreatDoorQClQAlike9
import Derived.Laws.StructEq
import Derived.ChangeKeysEq
import Derived.Laws.Tables
namespace Go.Vc
open Go Go.Proofs
set_option maxRecDepth 10000
variable {w : World}
def thL (s : Shp) (c : Ck) : List Std := (List.range s.th.toNat).map fun t : Nat => st c t
def loL (s : Shp) (c : Ck) : List Int := (List.range s.lo.toNat).map fun l : Nat => (c.O l).getD (-1)
structure RG where
  p : Nat
  pad : Option Addr
  pcap : Nat
  tad : Option Addr
  tcap : Nat
  wad : Option Addr
  wcap : Nat
  oad : Option Addr
  ocap : Nat
def RG.F (g : RG) : List Nat := g.p :: (blkOf g.pad ++ (blkOf g.tad ++ (blkOf g.wad ++ blkOf g.oad)))
abbrev rgC (g : RG) (s : Shp) (c : Ck) : List Value := [I s.th, I s.va, I s.vo, I s.lo, .slice g.pad s.pa.length g.pcap, .slice g.tad s.th.toNat g.tcap, .slice g.wad s.lo.toNat g.wcap, .slice g.oad c.op.length g.ocap, I c.n]
structure RM (w : World) (g : RG) (s : Shp) (c : Ck) : Prop where
  hdr : Blk w g.p (rgC g s c) 210
  pa : OwnS w 3 1 g.pad s.pa.length g.pcap (s.pa.map I)
  th : OwnS w 136 3 g.tad s.th.toNat g.tcap ((thL s c).flatMap stdC)
  lo : OwnS w 3 1 g.wad s.lo.toNat g.wcap ((loL s c).map I)
  op : OwnS w 131 2 g.oad c.op.length g.ocap (c.op.flatMap opC2)
  nd : g.F.Nodup
structure RAt (w : World) (g : RG) (s : Shp) (c : Ck) : Prop extends RM w g s c where
  ok : CkOk s c
  nz : ∀ t x, c.T t = some x → x.ph ≠ 0
theorem RM.kp {w' : World} {S : List Nat} {g : RG} {s : Shp} {c : Ck} (h : RM w g s c) (hk : Kp S w w') (hS : ∀ b, b ∈ g.F → b ∉ S) : RM w' g s c where
  hdr := hk.blk (hS g.p (by simp [RG.F])) h.hdr
  pa := h.pa.kp hk (fun b hb => hS b (by simp [RG.F, hb]))
  th := h.th.kp hk (fun b hb => hS b (by simp [RG.F, hb]))
  lo := h.lo.kp hk (fun b hb => hS b (by simp [RG.F, hb]))
  op := h.op.kp hk (fun b hb => hS b (by simp [RG.F, hb]))
  nd := h.nd
theorem RAt.kp {w' : World} {S : List Nat} {g : RG} {s : Shp} {c : Ck} (h : RAt w g s c) (hk : Kp S w w') (hS : ∀ b, b ∈ g.F → b ∉ S) : RAt w' g s c := ⟨h.toRM.kp hk hS, h.ok, h.nz⟩
theorem RAt.kp0 {w' : World} {g : RG} {s : Shp} {c : Ck} (h : RAt w g s c) (hk : Kp [] w w') : RAt w' g s c := h.kp hk (by simp)
theorem RAt.sm {w' : World} {g : RG} {s : Shp} {c : Ck} (h : RAt w g s c) (hk : Sm w w') : RAt w' g s c := h.kp0 (hk.kp [])
theorem RM.lt {g : RG} {s : Shp} {c : Ck} (h : RM w g s c) : ∀ b, b ∈ g.F → b < w.heap.size := by
  intro b hb
  simp only [RG.F, List.mem_cons, List.mem_append] at hb
  rcases hb with rfl | hb | hb | hb | hb
  · exact h.hdr.lt
  · exact h.pa.lt b hb
  · exact h.th.lt b hb
  · exact h.lo.lt b hb
  · exact h.op.lt b hb
theorem thL_len (s : Shp) (c : Ck) : (thL s c).length = s.th.toNat := by simp [thL]
theorem loL_len (s : Shp) (c : Ck) : (loL s c).length = s.lo.toNat := by simp [loL]
theorem thL_get {s : Shp} {c : Ck} {t : Int} (h0 : 0 ≤ t) (h1 : t < s.th) : (thL s c)[t.toNat]? = some (st c t) := by
  unfold thL
  rw [List.getElem?_map, List.getElem?_range (by omega)]
  have : ((t.toNat : Nat) : Int) = t := by omega
  simp [this]
theorem loL_get {s : Shp} {c : Ck} {l : Int} (h0 : 0 ≤ l) (h1 : l < s.lo) : (loL s c)[l.toNat]? = some ((c.O l).getD (-1)) := by
  unfold loL
  rw [List.getElem?_map, List.getElem?_range (by omega)]
  have : ((l.toNat : Nat) : Int) = l := by omega
  simp [this]
section
variable {g : RG} {s : Shp} {c : Ck}
end
end Go.Vc
/- abreastref19: Can. -/
namespace Go.Vc
open Go Go.Proofs
set_option maxRecDepth 10000
variable {w : World}
section
variable {g : RG} {s : Shp} {c : Ck}
end
end Go.Vc
/- abreastref19: Next (by tool/mkFr3.py). -/
namespace Go.Vc
open Go Go.Proofs
set_option maxRecDepth 10000
variable {w : World}
section
variable {g : RG} {s : Shp} {c : Ck}
theorem Upd.sm {w1 w2 : World} {b : Nat} {o : Obj} (hs : Sm w w1) (h : Upd w1 b o w2) : Upd w b o w2 :=
  ⟨h.os.trans hs.os, h.tape.trans hs.tape, h.output.trans hs.output, h.at_, fun k hk => by rw [h.other k hk, hs.heap], by rw [← hs.heap]; exact h.size, by rw [← hs.heap]; exact h.size'⟩
theorem thL_set {t : Int} {y : Std} (h0 : 0 ≤ t) : thL s { c with T := upT c.T t (some y) } = (thL s c).set t.toNat y := by
  apply List.ext_getElem?
  intro i
  by_cases hi : i < s.th.toNat
  · have e1 : ∀ c : Ck, (thL s c)[i]? = some (st c i) := fun c => by have := thL_get (s := s) (c := c) (t := i) (by omega) (by omega); simpa using this
    rw [e1, List.getElem?_set]
    by_cases hti : t.toNat = i
    · rw [if_pos hti, if_pos (by rw [thL_len]; omega)]
      have : ((i : Nat) : Int) = t := by omega
      simp [st, upT, this]
    · rw [if_neg hti, e1]
      have : ((i : Nat) : Int) ≠ t := by omega
      simp [st, upT, this]
  · rw [List.getElem?_eq_none (by rw [thL_len]; omega), List.getElem?_eq_none (by rw [List.length_set, thL_len]; omega)]
theorem loL_set {l : Int} {y : Option Int} (h0 : 0 ≤ l) : loL s { c with O := upT c.O l y } = (loL s c).set l.toNat (y.getD (-1)) := by
  apply List.ext_getElem?
  intro i
  by_cases hi : i < s.lo.toNat
  · have e1 : ∀ c : Ck, (loL s c)[i]? = some ((c.O i).getD (-1)) := fun c => by have := loL_get (s := s) (c := c) (l := i) (by omega) (by omega); simpa using this
    rw [e1, List.getElem?_set]
    by_cases hti : l.toNat = i
    · rw [if_pos hti, if_pos (by rw [loL_len]; omega)]
      dsimp only [upT]; rw [if_pos (by omega)]
    · rw [if_neg hti, e1]
      dsimp only [upT]; rw [if_neg (by omega)]
  · rw [List.getElem?_eq_none (by rw [loL_len]; omega), List.getElem?_eq_none (by rw [List.length_set, loL_len]; omega)]
theorem RG.ne (h : g.F.Nodup) : (∀ b, b ∈ blkOf g.pad → b ≠ g.p) ∧ (∀ b, b ∈ blkOf g.tad → b ≠ g.p ∧ b ∉ blkOf g.pad) ∧ (∀ b, b ∈ blkOf g.wad → b ≠ g.p ∧ b ∉ blkOf g.pad ∧ b ∉ blkOf g.tad) ∧ (∀ b, b ∈ blkOf g.oad → b ≠ g.p ∧ b ∉ blkOf g.pad ∧ b ∉ blkOf g.tad ∧ b ∉ blkOf g.wad) := by
  simp only [RG.F, List.nodup_cons, List.mem_append, not_or, List.nodup_append] at h
  obtain ⟨⟨h1, h2, h3, h4⟩, _, ⟨_, ⟨_, _, h7⟩, h8⟩, h9⟩ := h
  refine ⟨fun b hb e => h1 (e ▸ hb), fun b hb => ⟨fun e => h2 (e ▸ hb), fun hb2 => h9 b hb2 b (.inl hb) rfl⟩, fun b hb => ⟨fun e => h3 (e ▸ hb), fun hb2 => h9 b hb2 b (.inr (.inl hb)) rfl, fun hb2 => h8 b hb2 b (.inl hb) rfl⟩, fun b hb => ⟨fun e => h4 (e ▸ hb), fun hb2 => h9 b hb2 b (.inr (.inr hb)) rfl, fun hb2 => h8 b hb2 b (.inr hb) rfl, fun hb2 => h7 b hb2 b hb rfl⟩⟩
/-- what a step writes to: all but the shape's parties -/
def RG.W (g : RG) : List Nat := g.p :: (blkOf g.tad ++ (blkOf g.wad ++ blkOf g.oad))
theorem RG.W_F {b : Nat} (hb : b ∈ g.W) : b ∈ g.F := by
  simp only [RG.W, RG.F, List.mem_cons, List.mem_append] at hb ⊢
  rcases hb with h | h
  · exact .inl h
  · exact .inr (.inr h)
theorem RM.setN {w' : World} (h : RM w g s c) {n : Nat} (hu : Upd w g.p (.cells ⟨rgC g s { c with n := n }⟩ 210 (0, 0)) w') : RM w' g s { c with n := n } ∧ Kp g.W w w' := by
  obtain ⟨n1, n2, n3, n4⟩ := RG.ne h.nd
  have k : Kp [g.p] w w' := hu.kp _ (.inl (by simp))
  refine ⟨⟨hu.blk, h.pa.kp k (fun b hb => by simpa using n1 b hb), h.th.kp k (fun b hb => by simpa using (n2 b hb).1), h.lo.kp k (fun b hb => by simpa using (n3 b hb).1), h.op.kp k (fun b hb => by simpa using (n4 b hb).1), h.nd⟩, k.mono (fun b hb => ?_)⟩
  simp at hb; subst hb; simp [RG.W]
theorem RM.setT {w' : World} {b : Nat} {o : Obj} {t : Int} {y : Std} (h : RM w g s c) (h0 : 0 ≤ t) (hb : g.tad = some ⟨b, 0, none⟩) (hu : Upd w b o w') (ho : OwnS w' 136 3 g.tad s.th.toNat g.tcap (((thL s c).set t.toNat y).flatMap stdC)) : RM w' g s { c with T := upT c.T t (some y) } ∧ Kp g.W w w' := by
  obtain ⟨n1, n2, n3, n4⟩ := RG.ne h.nd
  have hbt : b ∈ blkOf g.tad := by rw [hb]; simp [blkOf]
  have k : Kp [b] w w' := hu.kp _ (.inl (by simp))
  obtain ⟨m1, m2⟩ := n2 b hbt
  refine ⟨⟨k.blk (by simpa using fun e => m1 e.symm) h.hdr, h.pa.kp k (fun b' hb' hb2 => by simp at hb2; subst hb2; exact m2 hb'), by rw [thL_set h0]; exact ho, h.lo.kp k (fun b' hb' hb2 => by simp at hb2; subst hb2; exact (n3 _ hb').2.2 hbt), h.op.kp k (fun b' hb' hb2 => by simp at hb2; subst hb2; exact (n4 _ hb').2.2.1 hbt), h.nd⟩, k.mono (fun b' hb' => ?_)⟩
  simp at hb'; subst hb'; simp [RG.W, hbt]
theorem RM.setO {w' : World} {b : Nat} {o : Obj} {l : Int} {y : Option Int} (h : RM w g s c) (h0 : 0 ≤ l) (hb : g.wad = some ⟨b, 0, none⟩) (hu : Upd w b o w') (ho : OwnS w' 3 1 g.wad s.lo.toNat g.wcap (((loL s c).set l.toNat (y.getD (-1))).map I)) : RM w' g s { c with O := upT c.O l y } ∧ Kp g.W w w' := by
  obtain ⟨n1, n2, n3, n4⟩ := RG.ne h.nd
  have hbt : b ∈ blkOf g.wad := by rw [hb]; simp [blkOf]
  have k : Kp [b] w w' := hu.kp _ (.inl (by simp))
  obtain ⟨m1, m2, m3⟩ := n3 b hbt
  refine ⟨⟨k.blk (by simpa using fun e => m1 e.symm) h.hdr, h.pa.kp k (fun b' hb' hb2 => by simp at hb2; subst hb2; exact m2 hb'), h.th.kp k (fun b' hb' hb2 => by simp at hb2; subst hb2; exact m3 hb'), by rw [loL_set h0]; exact ho, h.op.kp k (fun b' hb' hb2 => by simp at hb2; subst hb2; exact (n4 _ hb').2.2.2 hbt), h.nd⟩, k.mono (fun b' hb' => ?_)⟩
  simp at hb'; subst hb'; simp [RG.W, hbt]
end
end Go.Vc
/- abreastref19: New, Round, Stand, Owner. -/
namespace Go.Vc
open Go Go.Proofs
set_option maxRecDepth 10000
variable {w : World}
def RG.D (g : RG) : Nat → List Nat
  | 0 => [g.p]
  | 1 => blkOf g.pad
  | 2 => blkOf g.tad
  | 3 => blkOf g.wad
  | 4 => blkOf g.oad
  | _ => []
def SepD (D : Nat → List Nat) : Prop := ∀ i j b, i ≠ j → b ∈ D i → b ∉ D j
theorem SepD.upd {D D' : Nat → List Nat} {N : Nat} (h : SepD D) (lt : ∀ i b, b ∈ D i → b < N) (k : Nat) (h' : ∀ i, i ≠ k → D' i = D i) (hk : ∀ b, b ∈ D' k → b ∈ D k ∨ N ≤ b) : SepD D' := by
  intro i j b hij hb hb2
  by_cases hi : i = k
  · subst hi
    rw [h' j (fun e => hij e.symm)] at hb2
    rcases hk b hb with q | q
    · exact h i j b hij q hb2
    · have := lt j b hb2; omega
  · rw [h' i hi] at hb
    by_cases hj : j = k
    · subst hj
      rcases hk b hb2 with q | q
      · exact h i j b hij hb q
      · have := lt i b hb; omega
    · rw [h' j hj] at hb2
      exact h i j b hij hb hb2
/-- a checker that is being made -/
structure PN (w0 w : World) (g : RG) (s : Shp) (np no : Nat) (nt : List Std) (nw : Nat) : Prop where
  hdr : Blk w g.p [I s.th, I s.va, I s.vo, I s.lo, .slice g.pad np g.pcap, .slice g.tad nt.length g.tcap, .slice g.wad nw g.wcap, .slice g.oad no g.ocap, I 0] 210
  pa : OwnS w 3 1 g.pad np g.pcap ((s.pa.take np).map I)
  th : OwnS w 136 3 g.tad nt.length g.tcap (nt.flatMap stdC)
  lo : OwnS w 3 1 g.wad nw g.wcap ((List.replicate nw (-1 : Int)).map I)
  op : OwnS w 131 2 g.oad no g.ocap ((List.replicate no ((0, 0) : Int × Int)).flatMap opC2)
  sep : SepD g.D
  new : ∀ i b, b ∈ g.D i → w0.heap.size ≤ b
  kk : Kp [] w0 w
section
variable {w0 : World} {g : RG} {s : Shp} {np no nw : Nat} {nt : List Std}
theorem PN.lt (h : PN w0 w g s np no nt nw) : ∀ i b, b ∈ g.D i → b < w.heap.size := by
  intro i b hb
  match i with
  | 0 => simp [RG.D] at hb; subst hb; exact h.hdr.lt
  | 1 => exact h.pa.lt b hb
  | 2 => exact h.th.lt b hb
  | 3 => exact h.lo.lt b hb
  | 4 => exact h.op.lt b hb
  | n + 5 => simp [RG.D] at hb
theorem PN.kp0 {w' : World} (h : PN w0 w g s np no nt nw) (hk : Kp [] w w') : PN w0 w' g s np no nt nw :=
  ⟨hk.blk (by simp) h.hdr, h.pa.kp hk (by simp), h.th.kp hk (by simp), h.lo.kp hk (by simp), h.op.kp hk (by simp), h.sep, h.new, h.kk.trans hk⟩
/-- behind an append to one of the rows (its number k), and the store of it -/
theorem PN.parts {w1 w2 : World} {L : List Value} {k : Nat} (h : PN w0 w g s np no nt nw) (hk0 : k ≠ 0) (k1 : Kp (g.D k) w w1) (hu : Upd w1 g.p (.cells ⟨L⟩ 210 (0, 0)) w2) : Kp [] w0 w2 := by
  have h2 : Kp (g.D k ++ [g.p]) w w2 := (k1.mono (fun b hb => by simp [hb])).trans (hu.kp _ (.inl (by simp)))
  refine h.kk.since h2 (fun b hb => ?_)
  rcases List.mem_append.1 hb with q | q
  · exact h.new k b q
  · simp at q; subst q; exact h.new 0 _ (by simp [RG.D])
theorem PN.setT {w2 : World} {b : Nat} {o : Obj} {nt' : List Std} (h : PN w0 w g s np no nt nw) (hl : nt'.length = nt.length) (hb : g.tad = some ⟨b, 0, none⟩) (hu : Upd w b o w2) (ho : OwnS w2 136 3 g.tad nt'.length g.tcap (nt'.flatMap stdC)) : PN w0 w2 g s np no nt' nw := by
  have hbt : b ∈ g.D 2 := by show b ∈ blkOf g.tad; rw [hb]; simp [blkOf]
  have k : Kp [b] w w2 := hu.kp _ (.inl (by simp))
  have sp : ∀ i, i ≠ 2 → ∀ c, c ∈ g.D i → c ∉ [b] := fun i hi c hc hc2 => by simp at hc2; subst hc2; exact h.sep i 2 _ hi hc hbt
  exact ⟨by rw [hl]; exact k.blk (sp 0 (by simp) _ (by simp [RG.D])) h.hdr, h.pa.kp k (sp 1 (by simp)), ho, h.lo.kp k (sp 3 (by simp)), h.op.kp k (sp 4 (by simp)), h.sep, h.new, h.kk.since k (fun c hc => by simp at hc; subst hc; exact h.new 2 _ hbt)⟩
end
end Go.Vc
/- abreastref19: New. -/
namespace Go.Vc
open Go Go.Proofs
set_option maxRecDepth 10000
variable {w : World} {s : Shp}
end Go.Vc
/- feasible: Round; abreastref19: Round, Stand, Owner. -/
namespace Go.Vc
open Go Go.Proofs
set_option maxRecDepth 10000
variable {w : World} {s : Shp} {c : Ck}
def opIn (c : Ck) (i : Int) : Int × Int := if 0 ≤ i ∧ i < c.op.length then opAt c i else (0, 0)
theorem Round_ret {g : CkG} (h : CkAt w g s c) (i : Int) : Ret Tryz.prog 87 [ptr g.p, I i] w (fun v w' => v = .tuple #[.agg ⟨opC2 (opIn c i)⟩, I (if 0 ≤ i ∧ i < c.op.length then 0 else 2)] ∧ Kp [] w w') := by
  have hop := h.ok.op
  have hpa := h.ok.sh.2.2.2.2.1
  refine enterC Tryz.call87 Tryz.func87 rfl rfl rfl rfl ?_
  (repeat first|refine zA ?_|refine zg ?_)
  refine o_alloc rfl rfl rfl rfl ?_
  intro bs w1 hbs hu1
  have k1 : Kp [] w w1 := hu1.kp [] (.inr (by omega))
  have h1 := h.kp0 k1
  (repeat first|refine zA ?_|refine zB ?_|refine zg ?_|refine zo rfl rfl trivial ?_|refine zn ?_)
  refine o_call (fnone_ret h1) rfl rfl rfl ?_
  rintro v wx ⟨rfl, rfl⟩
  (repeat first|refine zA ?_|refine zB ?_|refine zg ?_|refine zo rfl rfl trivial ?_|refine zn ?_|refine zk ?_|refine zf rfl ?_)
  refine o_load rfl h1.hdr rfl rfl rfl rfl rfl ?_
  (repeat refine zo rfl rfl trivial ?_)
  refine o_call (asked_ret _ i c.op.length) rfl rfl rfl ?_
  rintro v w3 ⟨rfl, rfl⟩
  by_cases hin : 0 ≤ i ∧ i < c.op.length
  · rw [if_pos hin]
    obtain ⟨ob, L, hoad, _, hL, _, hL1, hL2⟩ := h1.open_ (i := i.toNat) (by omega)
    have e1 : ((i.toNat : Nat) : Int) = i := by omega
    rw [e1] at hL1 hL2
    have hh := h1.hdr
    rw [show ckC g s c = [I s.th, I s.va, I s.vo, I s.lo, .slice g.pad s.pa.length g.pcap, .map (some g.m1), .map (some g.m2), .slice (some ⟨ob, 0, none⟩) c.op.length g.ocap, I c.n] by rw [ckC, hoad]] at hh
    (repeat first|refine zA ?_|refine zg ?_|refine zo rfl rfl trivial ?_|refine zn ?_|refine zk ?_|refine zf rfl ?_)
    refine o_load (v := .slice (some ⟨ob, 0, none⟩) c.op.length g.ocap) rfl hh rfl rfl rfl rfl rfl ?_
    (repeat refine zo rfl rfl (by first|exact trivial|(simp only[AllP];omega)) ?_)
    refine o_loadA (b := ob) (off := i.toNat * 2) (vs := opC2 (opAt c i)) ?_ (fun j v hv => ?_) rfl rfl rfl rfl rfl rfl ?_
    · show Value.pointer (some ⟨ob, 0 + i.toNat * 2, none⟩) = _
      rw [Nat.zero_add]
    · match j, hv with
      | 0, hv => cases hv; exact hL.cell hL1
      | 1, hv => cases hv; exact hL.cell hL2
    refine o_storeA (cs := opC2 (opAt c i)) rfl hu1.blk (Nat.le_refl _) rfl (by simp [Value.oneCell']) rfl rfl rfl rfl ?_
    intro w4 hu4
    have k4 : Kp [] w w4 := k1.since (hu4.kp [bs] (.inl (by simp))) (by simp; omega)
    have hB4 : Blk w4 bs (opC2 (opAt c i)) 131 := hu4.blk
    (repeat first|refine zo rfl rfl trivial ?_|refine zn ?_|refine zr ?_)
    exact ⟨[.agg ⟨opC2 (opAt c i)⟩, _], ⟨⟨_, rfl, run_loadB hB4 rfl rfl rfl rfl⟩, ⟨_, rfl⟩, trivial⟩, by unfold opIn; rw [if_pos hin]; rfl, k4⟩
  · rw [if_neg hin]
    (repeat first|refine zA ?_|refine zg ?_|refine zo rfl rfl trivial ?_|refine zn ?_|refine zt rfl ?_)
    refine o_build [I 0, I 0] rfl rfl rfl rfl rfl rfl rfl ?_
    (repeat refine zo rfl rfl trivial ?_)
    refine o_storeA (cs := [I 0, I 0]) rfl hu1.blk (Nat.le_refl _) rfl (by simp [Value.oneCell']) rfl rfl rfl rfl ?_
    intro w4 hu4
    have k4 : Kp [] w w4 := k1.since (hu4.kp [bs] (.inl (by simp))) (by simp; omega)
    have hB4 : Blk w4 bs [I 0, I 0] 131 := hu4.blk
    (repeat first|refine zo rfl rfl trivial ?_|refine zn ?_|refine zr ?_)
    exact ⟨[.agg ⟨[I 0, I 0]⟩, _], ⟨⟨_, rfl, run_loadB hB4 rfl rfl rfl rfl⟩, ⟨_, rfl⟩, trivial⟩, by unfold opIn; rw [if_neg hin]; rfl, k4⟩
section
variable {g : RG}
end
end Go.Vc
/- Equality of structs whose fields are all ints. -/
namespace Go.Vc
open Go
variable {P : Program} {n : Nat} {a : Act} {e : Env} {w : World} {K : EPost} {X : List (Nat × EPost)} {R : EPost} {all : List Oper} {G : List Nat} {ro : Ro} {Fl : World → Prop}
def okFields (P : Program) : List Field → Nat → Bool
  | [], _ => true
  | f :: r, k => (f.name != "_") && Nat.beq f.offset k && (match P.underlying f.type with | some (.int .i64) => true | _ => false) && okFields P r (k + 1)
def eqInts : List Int → List Int → Bool
  | [], [] => true
  | x :: r, y :: q => if x = y then eqInts r q else false
  | _, _ => false
theorem eqInts_iff : ∀ {l m : List Int}, eqInts l m = true ↔ l = m
  | [], [] => by simp [eqInts]
  | x :: r, y :: q => by
    simp only [eqInts]
    by_cases h : x = y
    · rw [if_pos h, eqInts_iff, h]; simp
    · rw [if_neg h]; simp [h]
  | [], _ :: _ => by simp [eqInts]
  | _ :: _, [] => by simp [eqInts]
theorem run_eqFields_ints (d : Nat) (xs ys : Array Value) : ∀ (fs : List Field) (k : Nat) (us bs : List Int), okFields P fs k = true → us.length = fs.length → bs.length = fs.length → (∀ j v, us[j]? = some v → xs[k + j]? = some (I v)) → (∀ j v, bs[j]? = some v → ys[k + j]? = some (I v)) →
    (Op.eqFields (d + 1) xs ys fs).run P w = .ok (eqInts us bs) w
  | [], k, us, bs, _, ha, hb, _, _ => by
    have e1 : us = [] := List.eq_nil_of_length_eq_zero (by simpa using ha)
    have e2 : bs = [] := List.eq_nil_of_length_eq_zero (by simpa using hb)
    subst e1 e2
    simp [Op.eqFields, eqInts]
  | f :: r, k, us, bs, h, ha, hb, hx, hy => by
    match us, bs, ha, hb with
    | x :: us, y :: bs, ha, hb =>
      simp only [okFields, Bool.and_eq_true, bne_iff_ne, ne_eq] at h
      obtain ⟨⟨⟨h1, h2⟩, h3⟩, h4⟩ := h
      have h2 := Nat.eq_of_beq_eq_true h2
      have h3' : P.underlying f.type = some (.int .i64) := by
        split at h3 <;> first | assumption | cases h3
      have ih := run_eqFields_ints d xs ys r (k + 1) us bs h4 (by simpa using ha) (by simpa using hb) (fun j v hv => by
        have := hx (j + 1) v (by simpa using hv)
        rwa [show k + (j + 1) = k + 1 + j by omega] at this) (fun j v hv => by
        have := hy (j + 1) v (by simpa using hv)
        rwa [show k + (j + 1) = k + 1 + j by omega] at this)
      have hx0 := hx 0 x rfl
      have hy0 := hy 0 y rfl
      rw [Nat.add_zero] at hx0 hy0
      have p1 : (part f.type xs f.offset).run P w = .ok (I x) w := by
        rw [h2]; simp [part, isAgg_run h3' rfl, hx0]
      have p2 : (part f.type ys f.offset).run P w = .ok (I y) w := by
        rw [h2]; simp [part, isAgg_run h3' rfl, hy0]
      simp only [Op.eqFields, Sem.run_bind, Sem.run_ite, if_pos h1, p1, p2, Result.andThen_ok, run_equalIn_int w d f.type .i64 .i64 x y h3', eqInts]
      by_cases hxy : x = y
      · simp [hxy, ih]
      · simp [hxy]
theorem run_eqS {t : TypeId} {us bs : List Int} (hu : P.underlying t = some (.struct (P.fieldsOf t))) (hp : P.stoodInHeld t = false) (hf : okFields P (P.fieldsOf t).toList 0 = true) (ha : Nat.beq us.length (P.fieldsOf t).toList.length = true) (hb : Nat.beq bs.length (P.fieldsOf t).toList.length = true) :
    (Op.equalIn 10000 t (.agg ⟨us.map I⟩) (.agg ⟨bs.map I⟩)).run P w = .ok (eqInts us bs) w := by
  rw [run_equalIn_agg w 9999 t _ _ hu hp]
  exact run_eqFields_ints 9998 _ _ _ 0 us bs hf (Nat.eq_of_beq_eq_true ha) (Nat.eq_of_beq_eq_true hb) (fun j v hv => by simp [hv]) (fun j v hv => by simp [hv])
section
variable {dst : Option Tmp} {ty ty2 : TypeId} {pos : String} {after : Array Edge} {g : Option (Nat × Bool)} {l : List Oper} {t : TypeId} {x y : Operand}
theorem exec_eqS {us bs : List Int} (hx : ev e x = .agg ⟨us.map I⟩) (hy : ev e y = .agg ⟨bs.map I⟩) (hu : P.underlying t = some (.struct (P.fieldsOf t))) (hp : P.stoodInHeld t = false) (hg : P.eqGuardType P.depth t = false) (hf : okFields P (P.fieldsOf t).toList 0 = true) (ha : Nat.beq us.length (P.fieldsOf t).toList.length = true) (hb : Nat.beq bs.length (P.fieldsOf t).toList.length = true) :
    (execOp (ev e) ⟨dst, .binOp .eql t x y ty2, ty, pos, after, g⟩).run P w = .ok (.value (.bool (eqInts us bs))) w := by
  simp only [execOp, Sem.run_bind, hx, hy, run_eqGuard_agg w .eql t x y _ _ hg, Result.andThen_ok, run_eql_struct, run_eqS hu hp hf ha hb, Sem.run_pure]
theorem o_eqS (us bs : List Int) (hx : ev e x = .agg ⟨us.map I⟩) (hy : ev e y = .agg ⟨bs.map I⟩) (hu : P.underlying t = some (.struct (P.fieldsOf t))) (hp : P.stoodInHeld t = false) (hg : P.eqGuardType P.depth t = false) (hf : okFields P (P.fieldsOf t).toList 0 = true) (ha : Nat.beq us.length (P.fieldsOf t).toList.length = true) (hb : Nat.beq bs.length (P.fieldsOf t).toList.length = true) (hd : dOk n dst = true) (hm : may all G e g = some true)
    (k : Ops ro P n all G K l (put e dst (.bool (eqInts us bs))) w) : Ops ro P n all G K (⟨dst, .binOp .eql t x y ty2, ty, pos, after, g⟩ :: l) e w :=
  ops_does hd hm (exec_eqS hx hy hu hp hg hf ha hb) k
end
end Go.Vc
/- Equality of arrays of two ints. -/
namespace Go.Vc
open Go
variable {P : Program} {n : Nat} {a : Act} {e : Env} {w : World} {K : EPost} {X : List (Nat × EPost)} {R : EPost} {all : List Oper} {G : List Nat} {ro : Ro} {Fl : World → Prop}
theorem run_eqA2 {t et : TypeId} {i : TypeInfo} (hu : P.underlying t = some (.array 2 et)) (hi : P.info? et = some i) (hc : P.cellsOf et = 1) (he : P.underlying et = some (.int .i64)) (a b x y : Int) :
    (Op.equalIn 10000 t (.agg ⟨[I a, I b]⟩) (.agg ⟨[I x, I y]⟩)).run P w = .ok (eqInts [a, b] [x, y]) w := by
  rw [run_equalIn_array w 9999 _ _ hu hi, hc]
  have p : ∀ (l : List Value) (j : Nat) (v : Value), l[j]? = some v → (part et ⟨l⟩ (j * 1)).run P w = .ok v w := fun l j v hv => by
    simp [part, isAgg_run he rfl, hv]
  have hr : List.range 2 = [0, 1] := rfl
  rw [hr]
  simp only [Op.eqItems, Sem.run_bind, p [I a, I b] 0 (I a) rfl, p [I a, I b] 1 (I b) rfl, p [I x, I y] 0 (I x) rfl, p [I x, I y] 1 (I y) rfl, Result.andThen_ok, run_equalIn_int w 9998 et .i64 .i64 _ _ he, eqInts, Sem.run_ite]
  by_cases h1 : a = x
  · by_cases h2 : b = y
    · simp [h1, h2]
    · simp [h1, h2]
  · simp [h1]
section
variable {dst : Option Tmp} {ty ty2 : TypeId} {pos : String} {after : Array Edge} {g : Option (Nat × Bool)} {l : List Oper} {t et : TypeId} {x y : Operand}
theorem o_eqA {i : TypeInfo} (a1 a2 b1 b2 : Int) (hx : ev e x = .agg ⟨[I a1, I a2]⟩) (hy : ev e y = .agg ⟨[I b1, I b2]⟩) (hu : P.underlying t = some (.array 2 et)) (hi : P.info? et = some i) (hc : P.cellsOf et = 1) (he : P.underlying et = some (.int .i64)) (hg : P.eqGuardType P.depth t = false) (hd : dOk n dst = true) (hm : may all G e g = some true)
    (k : Ops ro P n all G K l (put e dst (.bool (eqInts [a1, a2] [b1, b2]))) w) : Ops ro P n all G K (⟨dst, .binOp .eql t x y ty2, ty, pos, after, g⟩ :: l) e w :=
  ops_does hd hm (by simp only [execOp, Sem.run_bind, hx, hy, run_eqGuard_agg w .eql t x y _ _ hg, Result.andThen_ok, run_eql_struct, run_eqA2 hu hi hc he, Sem.run_pure]) k
theorem o_buildA {i ie : TypeInfo} {zc : Value} {parts : Array (Nat × Operand)} {m : Nat} (cs : List Value) (hu : P.underlying t = some (.array m et)) (hi : P.info? t = some i) (hz : i.zero = some zc) (hie : P.info? et = some ie)
    (hf : Instr.fill (fun j => some (j * ie.size, ie.size)) zc.cells (parts.toList.map fun (j, x) => (j, ev e x)) = some ⟨cs⟩) (hd : dOk n dst = true) (hm : may all G e g = some true)
    (k : Ops ro P n all G K l (put e dst (.agg ⟨cs⟩)) w) : Ops ro P n all G K (⟨dst, .build t parts, ty, pos, after, g⟩ :: l) e w := by
  refine ops_does hd hm ?_ k
  have hb : P.built t (parts.map fun (j, x) => (j, ev e x)).toList = some ⟨cs⟩ := by
    unfold Program.built
    simp only [hi, hu, hz, hie, Array.toList_map]
    exact hf
  simp only [execOp, Sem.run_bind, run_build w t _ _ hb, Result.andThen_ok, Sem.run_pure]
end
end Go.Vc
