/- bits: a relation in memory; NewRelation, Size, Link, Linked. -/
import Derived.Test.YtkgjibhbhddckaaDoorQClKPlays14
import Derived.Test.YtkgjibhbhddckaaDoorQClKPlays16
namespace Go.Vc
open Go Go.Proofs
set_option maxRecDepth 10000
variable {w : World}

def wid (n : Nat) : Nat := (n + 63) / 64
abbrev rowV (W : Nat) (b : Nat) : Value := .slice (some ⟨b, 0, none⟩) W W
/-- a relation at p: of n nodes, its rows' blocks bs, its words M -/
structure RelAt (w : World) (p n : Nat) (bs : List Nat) (M : List (List Nat)) (ad : Option Addr) (cap : Nat) : Prop where
  hdr : Blk w p [B true, I n, .slice ad n cap] 171
  own : OwnS w 148 1 ad n cap (bs.map (rowV (wid n)))
  nb : bs.length = n
  nM : M.length = n
  small : n ≤ 2048
  row : ∀ (i b : Nat) (ws : List Nat), bs[i]? = some b → M[i]? = some ws → Blk w b (ws.map U) 151 ∧ ws.length = wid n ∧ WOk ws
  nodup : bs.Nodup
  far : 0 ∉ p :: (blkOf ad ++ bs)
def relBlks (p : Nat) (ad : Option Addr) (bs : List Nat) : List Nat := p :: (blkOf ad ++ bs)
section
variable {p n : Nat} {bs : List Nat} {M : List (List Nat)} {ad : Option Addr} {cap : Nat}
theorem RelAt.at_row (h : RelAt w p n bs M ad cap) {i : Nat} (hi : i < n) : ∃ b ws, bs[i]? = some b ∧ M[i]? = some ws ∧ Blk w b (ws.map U) 151 ∧ ws.length = wid n ∧ WOk ws := by
  have h1 : bs[i]? = some (bs[i]'(by rw [h.nb]; exact hi)) := List.getElem?_eq_getElem _
  have h2 : M[i]? = some (M[i]'(by rw [h.nM]; exact hi)) := List.getElem?_eq_getElem _
  exact ⟨_, _, h1, h2, h.row i _ _ h1 h2⟩
theorem RelAt.kp {w' : World} (h : RelAt w p n bs M ad cap) {S : List Nat} (hk : Kp S w w') (hd : ∀ b, b ∈ relBlks p ad bs → b ∉ S) : RelAt w' p n bs M ad cap :=
  ⟨hk.blk (hd p (by simp [relBlks])) h.hdr, h.own.kp hk (fun b hb => hd b (by simp [relBlks, hb])), h.nb, h.nM, h.small,
    fun i b ws h1 h2 => ⟨hk.blk (hd b (by simp [relBlks, List.mem_of_getElem? h1])) (h.row i b ws h1 h2).1, (h.row i b ws h1 h2).2⟩, h.nodup, h.far⟩
theorem RelAt.kp0 {w' : World} (h : RelAt w p n bs M ad cap) (hk : Kp [] w w') : RelAt w' p n bs M ad cap := h.kp hk (by simp)
theorem RelAt.sm {w' : World} (h : RelAt w p n bs M ad cap) (hs : Sm w w') : RelAt w' p n bs M ad cap := h.kp0 (hs.kp [])
theorem RelAt.lt (h : RelAt w p n bs M ad cap) : ∀ b, b ∈ relBlks p ad bs → b < w.heap.size := by
  intro b hb
  rcases List.mem_cons.1 hb with rfl | hb
  · exact h.hdr.lt
  · rcases List.mem_append.1 hb with hb | hb
    · exact h.own.lt b hb
    · obtain ⟨i, hi⟩ := List.getElem?_of_mem hb
      have hlt : i < n := by rw [← h.nb]; exact (List.getElem?_eq_some_iff.1 hi).1
      obtain ⟨b', ws, h1, _, h3, _⟩ := h.at_row hlt
      rw [hi] at h1; cases h1; exact h3.lt
/-- the relation has been turned in place -/
structure RelTo (w : World) (p n : Nat) (bs : List Nat) (ad : Option Addr) (cap : Nat) (w' : World) (M' : List (List Nat)) : Prop where
  at_ : RelAt w' p n bs M' ad cap
  kp : Kp (relBlks p ad bs) w w'
theorem RelTo.refl (h : RelAt w p n bs M ad cap) : RelTo w p n bs ad cap w M := ⟨h, Kp.refl _ _⟩
theorem RelTo.trans {w1 w2 : World} {M1 M2 : List (List Nat)} (h : RelTo w p n bs ad cap w1 M1) (k : RelTo w1 p n bs ad cap w2 M2) : RelTo w p n bs ad cap w2 M2 := ⟨k.at_, h.kp.trans k.kp⟩
theorem RelTo.sm {w1 w2 : World} {M1 : List (List Nat)} (h : RelTo w p n bs ad cap w1 M1) (hs : Sm w1 w2) : RelTo w p n bs ad cap w2 M1 := ⟨h.at_.sm hs, h.kp.trans (hs.kp _)⟩
theorem relRow_ne {b1 b2 : Nat} {l1 l2 : List Value} {T1 T2 : TypeId} (h1 : Blk w b1 l1 T1) (h2 : Blk w b2 l2 T2) (hT : T1 ≠ T2) : b1 ≠ b2 := by
  rintro rfl
  unfold Blk at h1 h2
  rw [h1] at h2
  simp at h2
  exact hT h2.2
theorem RelAt.ad_blk (h : RelAt w p n bs M ad cap) {b : Nat} (hb : b ∈ blkOf ad) : ∃ l, Blk w b l 148 := by
  have ho := h.own.2
  cases ad with
  | none => simp [blkOf] at hb
  | some ad =>
    simp [blkOf] at hb; subst hb
    obtain ⟨_, _, _, _, junk, h5, _⟩ := ho
    exact ⟨_, h5⟩
/-- a word of a row is stored -/
theorem RelAt.stored {w1 w2 : World} (h : RelAt w p n bs M ad cap) (hs : Sm w w1) {i b k x : Nat} {ws : List Nat} (hb : bs[i]? = some b) (hM : M[i]? = some ws) (hx : x < 2 ^ 64)
    (hu : Upd w1 b (.cells ⟨(ws.map U).set k (U x)⟩ 151 (0, 0)) w2) : RelTo w p n bs ad cap w2 (M.set i (ws.set k x)) := by
  obtain ⟨hB, hl, hok⟩ := h.row i b ws hb hM
  have hmem : b ∈ bs := List.mem_of_getElem? hb
  have hpb : p ≠ b := relRow_ne h.hdr hB (by decide)
  have hi : i < M.length := (List.getElem?_eq_some_iff.1 hM).1
  refine ⟨⟨hu.kept hpb (hs.blk h.hdr), ?_, h.nb, by simpa using h.nM, h.small, ?_, h.nodup, h.far⟩, (hs.kp _).trans (hu.kp _ (.inl (by simp [relBlks, hmem])))⟩
  · refine (h.own.sm hs).upd hu fun hb2 => ?_
    obtain ⟨l, hl2⟩ := h.ad_blk hb2
    exact relRow_ne hl2 hB (by decide) rfl
  · intro j b' ws' h1 h2
    by_cases hij : i = j
    · subst hij
      rw [hb] at h1; cases h1
      rw [List.getElem?_set_self hi] at h2
      cases h2
      refine ⟨?_, by simpa using hl, hok.set hx⟩
      have := hu.blk
      rwa [List.map_set]
    · rw [List.getElem?_set_ne hij] at h2
      obtain ⟨g1, g2⟩ := h.row j b' ws' h1 h2
      refine ⟨hu.kept (fun e => ?_) (hs.blk g1), g2⟩
      subst e
      obtain ⟨e1, e3⟩ := (List.getElem?_eq_some_iff.1 hb)
      obtain ⟨e2, e4⟩ := (List.getElem?_eq_some_iff.1 h1)
      have hp := List.pairwise_iff_getElem.1 h.nodup
      rcases Nat.lt_or_gt_of_ne hij with hlt | hlt
      · exact hp i j e1 e2 hlt (by rw [e3, e4])
      · exact hp j i e2 e1 hlt (by rw [e3, e4])
end
/-- is i linked to j -/
def bitM (M : List (List Nat)) (i j : Nat) : Bool := bit (M.getD i []) j
def nodeB (n : Nat) (i : Int) : Bool := decide (0 ≤ i) && decide (i < n)
/-! ### NewRelation -/
def zeroM (n : Nat) : List (List Nat) := List.replicate n (List.replicate (wid n) 0)
structure NewRel (w : World) (p n : Nat) (w' : World) (bs : List Nat) (M : List (List Nat)) (ad : Option Addr) (cap : Nat) : Prop where
  at_ : RelAt w' p n bs M ad cap
  kp : Kp [] w w'
  new : ∀ b, b ∈ relBlks p ad bs → w.heap.size ≤ b
theorem NewRel.to {w1 w2 : World} {p n : Nat} {bs : List Nat} {M M' : List (List Nat)} {ad : Option Addr} {cap : Nat} (h : NewRel w p n w1 bs M ad cap) (k : RelTo w1 p n bs ad cap w2 M') : NewRel w p n w2 bs M' ad cap :=
  ⟨k.at_, h.kp.since k.kp h.new, h.new⟩
end Go.Vc
/- bits: relations: Link, Linked, Row, the copy of the rows, the pairs' iterator. -/
namespace Go.Vc
open Go Go.Proofs
set_option maxRecDepth 10000
variable {w : World}

section
variable {p n : Nat} {bs : List Nat} {M : List (List Nat)} {ad : Option Addr} {cap : Nat}
/-- a row's cell, a word's cell -/
theorem RelAt.cells (h : RelAt w p n bs M ad cap) {i : Nat} (hi : i < n) : ∃ ba b ws, ad = some ⟨ba, 0, none⟩ ∧ bs[i]? = some b ∧ M[i]? = some ws ∧ Blk w b (ws.map U) 151 ∧ ws.length = wid n ∧ WOk ws ∧ w.cell? ⟨ba, i, none⟩ = some (rowV (wid n) b) ∧ ∀ k, k < wid n → w.cell? ⟨b, k, none⟩ = some (U (ws.getD k 0)) := by
  obtain ⟨b, ws, h1, h2, h3, h4, h5⟩ := h.at_row hi
  have ho := h.own
  cases ad with
  | none => have := ho.2.1; omega
  | some ad =>
    obtain ⟨ba, off, spot⟩ := ad
    obtain ⟨e1, e2, _⟩ := ho.2
    cases e1; cases e2
    refine ⟨ba, b, ws, rfl, h1, h2, h3, h4, h5, ?_, fun k hk => ?_⟩
    · exact ho.get (by rw [List.getElem?_map, h1]; rfl)
    · refine h3.cell ?_
      rw [List.getElem?_map, List.getD_eq_getElem?_getD, List.getElem?_eq_getElem (by omega)]; rfl
def linkM (M : List (List Nat)) (i j : Nat) : List (List Nat) := M.set i ((M.getD i []).set (j / 64) ((M.getD i []).getD (j / 64) 0 ||| 2 ^ (j % 64)))
def linkedB (n : Nat) (M : List (List Nat)) (i j : Int) : Bool := nodeB n i && nodeB n j && bitM M i.toNat j.toNat
/-! ### The copy of the rows -/
/-- rows that lie in a block: their slices As, their words M -/
structure RowsAt (w : World) (bc n : Nat) (As : List (Option Addr × Nat)) (M : List (List Nat)) : Prop where
  blk : Blk w bc (As.map fun x => Value.slice x.1 (wid n) x.2) 148
  nA : As.length = n
  nM : M.length = n
  row : ∀ (i : Nat) (x : Option Addr × Nat) (ws : List Nat), As[i]? = some x → M[i]? = some ws → OwnS w 151 1 x.1 (wid n) x.2 (ws.map U) ∧ WOk ws ∧ ws.length = wid n
def rowsBlks (bc : Nat) (As : List (Option Addr × Nat)) : List Nat := bc :: As.flatMap fun x => blkOf x.1
theorem RowsAt.keep {w' : World} {bc : Nat} {As : List (Option Addr × Nat)} (h : RowsAt w bc n As M) (hk : ∀ b, b ∈ rowsBlks bc As → w'.heap[b]? = w.heap[b]?) : RowsAt w' bc n As M :=
  ⟨by unfold Blk; rw [hk bc (by simp [rowsBlks])]; exact h.blk, h.nA, h.nM, fun i x ws h1 h2 => ⟨(h.row i x ws h1 h2).1.keep (fun b hb => hk b (by
    unfold rowsBlks
    refine List.mem_cons_of_mem _ (List.mem_flatMap.2 ⟨x, List.mem_of_getElem? h1, hb⟩))), (h.row i x ws h1 h2).2⟩⟩
theorem RowsAt.lt {bc : Nat} {As : List (Option Addr × Nat)} (h : RowsAt w bc n As M) : ∀ b, b ∈ rowsBlks bc As → b < w.heap.size := by
  intro b hb
  rcases List.mem_cons.1 hb with rfl | hb
  · exact h.blk.lt
  · obtain ⟨x, hx, hb⟩ := List.mem_flatMap.1 hb
    obtain ⟨i, hi⟩ := List.getElem?_of_mem hx
    have hlt : i < M.length := by rw [h.nM, ← h.nA]; exact (List.getElem?_eq_some_iff.1 hi).1
    exact (h.row i x M[i] hi (List.getElem?_eq_getElem hlt)).1.lt b hb
end
end Go.Vc
/- bits: relations: the pairs' iterator, the law's pairs, Turned, Close. -/
namespace Go.Vc
open Go Go.Proofs
set_option maxRecDepth 10000
variable {w : World}

def rowPairs (M : List (List Nat)) (i : Nat) : List (Nat × Nat) := (elems (M.getD i [])).map fun j => (i, j)
def pairsL (n : Nat) (M : List (List Nat)) : List (Nat × Nat) := (List.range n).flatMap (rowPairs M)
abbrev encP (x : Nat × Nat) : List Value := [I (x.1 : Int), I (x.2 : Int)]
/-- a sequence of pairs: a function value that tells them -/
structure SeqP (w : World) (v : Value) (Fp : List Nat) (xs : List (Nat × Nat)) : Prop where
  is : ∃ f lb, v = .func (.func f) #[] ⟨lb⟩ ∧ Iter Tryd.prog f lb Fp encP xs w
theorem SeqP.kp {w w' : World} {v : Value} {Fp : List Nat} {xs : List (Nat × Nat)} (h : SeqP w v Fp xs) {S : List Nat} (hk : Kp S w w') (hd : ∀ b, b ∈ Fp → b ∉ S) : SeqP w' v Fp xs := by
  obtain ⟨f, lb, h1, h2⟩ := h.is
  exact ⟨f, lb, h1, h2.kp hk.size (fun b hb => hk.at_ b (h2.1 b hb) (hd b hb))⟩
theorem SeqP.lt {v : Value} {Fp : List Nat} {xs : List (Nat × Nat)} (h : SeqP w v Fp xs) : ∀ b, b ∈ Fp → b < w.heap.size := by
  obtain ⟨f, lb, h1, h2⟩ := h.is
  exact h2.1
/-! ### pairs: the law's reading -/
def pairsN (xs : List (Nat × Nat)) (most : Int) : List (Nat × Nat) := if 0 ≤ most then xs.take most.toNat else xs
def flatP (xs : List (Nat × Nat)) : List Nat := xs.flatMap fun x => [x.1, x.2]
structure PairsI (w : World) (bm bx bn : Nat) (most : Int) (pre : List (Nat × Nat)) (W : World) (ad : Option Addr) (cap : Nat) : Prop where
  bm_ : Blk W bm [I most] 3
  bn_ : Blk W bn [I pre.length] 3
  bx_ : Blk W bx [.slice ad (flatP pre).length cap] 22
  own : OwnS W 3 1 ad (flatP pre).length cap ((flatP pre).map encI)
  kp : Kp [] w W
  ne : bx ∉ blkOf ad
  nn : bn ∉ bm :: bx :: blkOf ad
  nm : bm ∉ bx :: blkOf ad
  new : ∀ b, b ∈ blkOf ad → w.heap.size ≤ b
  new3 : w.heap.size ≤ bm ∧ w.heap.size ≤ bx ∧ w.heap.size ≤ bn
  few : 0 ≤ most → (pre.length : Int) ≤ most
theorem PairsI.nc {bm bx bn : Nat} {most : Int} {pre : List (Nat × Nat)} {W W' : World} {ad : Option Addr} {cap B : Nat} (h : PairsI w bm bx bn most pre W ad cap) (hn : Nc B W W') (hB : w.heap.size ≤ B) : PairsI w bm bx bn most pre W' ad cap :=
  ⟨hn.blk h.bm_, hn.blk h.bn_, hn.blk h.bx_, hn.own h.own, hn.kp h.kp hB, h.ne, h.nn, h.nm, h.new, h.new3, h.few⟩
end Go.Vc
/- bits: relations: Turned, Close. -/
namespace Go.Vc
open Go Go.Proofs
set_option maxRecDepth 10000
variable {w : World}

section
variable {p n : Nat} {bs : List Nat} {M : List (List Nat)} {ad : Option Addr} {cap : Nat}
theorem RelAt.nc {B : Nat} {w' : World} (h : RelAt w p n bs M ad cap) (hn : Nc B w w') : RelAt w' p n bs M ad cap :=
  ⟨hn.blk h.hdr, hn.own h.own, h.nb, h.nM, h.small, fun i b ws h1 h2 => ⟨hn.blk (h.row i b ws h1 h2).1, (h.row i b ws h1 h2).2⟩, h.nodup, h.far⟩
/-- each link stays among the nodes -/
def InB (n : Nat) (M : List (List Nat)) : Prop := ∀ i j, bitM M i j = true → j < n
def turnedM (n : Nat) (xs : List (Nat × Nat)) : List (List Nat) := xs.foldl (fun T x => linkM T x.2 x.1) (zeroM n)
/-! ### Close -/
def orRow (a b : List Nat) : List Nat := updW (· ||| ·) a b b.length
def stepK (n : Nat) (M : List (List Nat)) (k : Nat) (m : Nat) : List (List Nat) := (List.range m).foldl (fun T i => if bitM T i k then T.set i (orRow (T.getD i []) (T.getD k [])) else T) M
def closeTo (n : Nat) (M : List (List Nat)) (m : Nat) : List (List Nat) := (List.range m).foldl (fun T k => stepK n T k n) M
def closeM (n : Nat) (M : List (List Nat)) : List (List Nat) := closeTo n M n
end
end Go.Vc
/- bits: what the operations on relations do to the links; chains. No program. -/
namespace Go.Vc
open Go

/-- n rows of the right width -/
structure MOk (n : Nat) (M : List (List Nat)) : Prop where
  len : M.length = n
  row : ∀ ws ∈ M, ws.length = wid n ∧ WOk ws
theorem MOk.get {n : Nat} {M : List (List Nat)} (h : MOk n M) {i : Nat} (hi : i < n) : ∃ ws, M[i]? = some ws ∧ M.getD i [] = ws ∧ ws.length = wid n ∧ WOk ws := by
  have hl : i < M.length := by rw [h.len]; exact hi
  refine ⟨M[i], List.getElem?_eq_getElem hl, ?_, h.row _ (List.getElem_mem hl)⟩
  rw [List.getD_eq_getElem?_getD, List.getElem?_eq_getElem hl]; rfl
theorem MOk.set {n : Nat} {M : List (List Nat)} (h : MOk n M) {i : Nat} {ws : List Nat} (hw : ws.length = wid n) (hok : WOk ws) : MOk n (M.set i ws) :=
  ⟨by simpa using h.len, fun x hx => by
    rcases List.mem_or_eq_of_mem_set hx with h1 | h1
    · exact h.row x h1
    · rw [h1]; exact ⟨hw, hok⟩⟩
/-! ### The closure -/
/-- a chain of one link or more -/
inductive Ch (R : Nat → Nat → Prop) : Nat → Nat → Prop
  | one {i j : Nat} : R i j → Ch R i j
  | more {i k j : Nat} : R i k → Ch R k j → Ch R i j
theorem Ch.trans {R : Nat → Nat → Prop} {i k j : Nat} (h : Ch R i k) (g : Ch R k j) : Ch R i j := by
  induction h with
  | one h => exact .more h g
  | more h _ ih => exact .more h (ih g)
theorem Ch.mono {R S : Nat → Nat → Prop} (hs : ∀ i j, R i j → S i j) {i j : Nat} (h : Ch R i j) : Ch S i j := by
  induction h with
  | one h => exact .one (hs _ _ h)
  | more h _ ih => exact .more (hs _ _ h) ih
def linkR (M : List (List Nat)) : Nat → Nat → Prop := fun i j => bitM M i j = true
theorem Ch.last {R : Nat → Nat → Prop} {i j : Nat} (h : Ch R i j) : ∃ k, R k j := by
  induction h with
  | one h => exact ⟨_, h⟩
  | more _ _ ih => exact ih
end Go.Vc
/- a relation without the table (by tool/mkZ.py out of the bits texts). -/
namespace Go.Vc
open Go Go.Proofs
set_option maxRecDepth 10000
variable {w : World}
structure ZAt (w : World) (p n : Nat) (bs : List Nat) (M : List (List Nat)) (ad : Option Addr) (cap : Nat) : Prop where
  hdr : Blk w p [B true, I n, .slice ad n cap] 171
  own : OwnS w 148 1 ad n cap (bs.map (rowV (wid n)))
  nb : bs.length = n
  nM : M.length = n
  small : n ≤ 2048
  row : ∀ (i b : Nat) (ws : List Nat), bs[i]? = some b → M[i]? = some ws → Blk w b (ws.map U) 151 ∧ ws.length = wid n ∧ WOk ws
  nodup : bs.Nodup
section
variable {p n : Nat} {bs : List Nat} {M : List (List Nat)} {ad : Option Addr} {cap : Nat}
theorem ZAt.at_row (h : ZAt w p n bs M ad cap) {i : Nat} (hi : i < n) : ∃ b ws, bs[i]? = some b ∧ M[i]? = some ws ∧ Blk w b (ws.map U) 151 ∧ ws.length = wid n ∧ WOk ws := by
  have h1 : bs[i]? = some (bs[i]'(by rw [h.nb]; exact hi)) := List.getElem?_eq_getElem _
  have h2 : M[i]? = some (M[i]'(by rw [h.nM]; exact hi)) := List.getElem?_eq_getElem _
  exact ⟨_, _, h1, h2, h.row i _ _ h1 h2⟩
theorem ZAt.kp {w' : World} (h : ZAt w p n bs M ad cap) {S : List Nat} (hk : Kp S w w') (hd : ∀ b, b ∈ relBlks p ad bs → b ∉ S) : ZAt w' p n bs M ad cap :=
  ⟨hk.blk (hd p (by simp [relBlks])) h.hdr, h.own.kp hk (fun b hb => hd b (by simp [relBlks, hb])), h.nb, h.nM, h.small,
    fun i b ws h1 h2 => ⟨hk.blk (hd b (by simp [relBlks, List.mem_of_getElem? h1])) (h.row i b ws h1 h2).1, (h.row i b ws h1 h2).2⟩, h.nodup⟩
theorem ZAt.kp0 {w' : World} (h : ZAt w p n bs M ad cap) (hk : Kp [] w w') : ZAt w' p n bs M ad cap := h.kp hk (by simp)
theorem ZAt.sm {w' : World} (h : ZAt w p n bs M ad cap) (hs : Sm w w') : ZAt w' p n bs M ad cap := h.kp0 (hs.kp [])
theorem ZAt.lt (h : ZAt w p n bs M ad cap) : ∀ b, b ∈ relBlks p ad bs → b < w.heap.size := by
  intro b hb
  rcases List.mem_cons.1 hb with rfl | hb
  · exact h.hdr.lt
  · rcases List.mem_append.1 hb with hb | hb
    · exact h.own.lt b hb
    · obtain ⟨i, hi⟩ := List.getElem?_of_mem hb
      have hlt : i < n := by rw [← h.nb]; exact (List.getElem?_eq_some_iff.1 hi).1
      obtain ⟨b', ws, h1, _, h3, _⟩ := h.at_row hlt
      rw [hi] at h1; cases h1; exact h3.lt
end
structure ZTo (w : World) (p n : Nat) (bs : List Nat) (ad : Option Addr) (cap : Nat) (w' : World) (M' : List (List Nat)) : Prop where
  at_ : ZAt w' p n bs M' ad cap
  kp : Kp (relBlks p ad bs) w w'
section
variable {p n : Nat} {bs : List Nat} {M : List (List Nat)} {ad : Option Addr} {cap : Nat}
theorem ZTo.refl (h : ZAt w p n bs M ad cap) : ZTo w p n bs ad cap w M := ⟨h, Kp.refl _ _⟩
theorem ZTo.trans {w1 w2 : World} {M1 M2 : List (List Nat)} (h : ZTo w p n bs ad cap w1 M1) (k : ZTo w1 p n bs ad cap w2 M2) : ZTo w p n bs ad cap w2 M2 := ⟨k.at_, h.kp.trans k.kp⟩
theorem ZTo.sm {w1 w2 : World} {M1 : List (List Nat)} (h : ZTo w p n bs ad cap w1 M1) (hs : Sm w1 w2) : ZTo w p n bs ad cap w2 M1 := ⟨h.at_.sm hs, h.kp.trans (hs.kp _)⟩
theorem ZAt.ad_blk (h : ZAt w p n bs M ad cap) {b : Nat} (hb : b ∈ blkOf ad) : ∃ l, Blk w b l 148 := by
  have ho := h.own.2
  cases ad with
  | none => simp [blkOf] at hb
  | some ad =>
    simp [blkOf] at hb; subst hb
    obtain ⟨_, _, _, _, junk, h5, _⟩ := ho
    exact ⟨_, h5⟩
theorem ZAt.stored {w1 w2 : World} (h : ZAt w p n bs M ad cap) (hs : Sm w w1) {i b k x : Nat} {ws : List Nat} (hb : bs[i]? = some b) (hM : M[i]? = some ws) (hx : x < 2 ^ 64)
    (hu : Upd w1 b (.cells ⟨(ws.map U).set k (U x)⟩ 151 (0, 0)) w2) : ZTo w p n bs ad cap w2 (M.set i (ws.set k x)) := by
  obtain ⟨hB, hl, hok⟩ := h.row i b ws hb hM
  have hmem : b ∈ bs := List.mem_of_getElem? hb
  have hpb : p ≠ b := relRow_ne h.hdr hB (by decide)
  have hi : i < M.length := (List.getElem?_eq_some_iff.1 hM).1
  refine ⟨⟨hu.kept hpb (hs.blk h.hdr), ?_, h.nb, by simpa using h.nM, h.small, ?_, h.nodup⟩, (hs.kp _).trans (hu.kp _ (.inl (by simp [relBlks, hmem])))⟩
  · refine (h.own.sm hs).upd hu fun hb2 => ?_
    obtain ⟨l, hl2⟩ := h.ad_blk hb2
    exact relRow_ne hl2 hB (by decide) rfl
  · intro j b' ws' h1 h2
    by_cases hij : i = j
    · subst hij
      rw [hb] at h1; cases h1
      rw [List.getElem?_set_self hi] at h2
      cases h2
      refine ⟨?_, by simpa using hl, hok.set hx⟩
      have := hu.blk
      rwa [List.map_set]
    · rw [List.getElem?_set_ne hij] at h2
      obtain ⟨g1, g2⟩ := h.row j b' ws' h1 h2
      refine ⟨hu.kept (fun e => ?_) (hs.blk g1), g2⟩
      subst e
      obtain ⟨e1, e3⟩ := (List.getElem?_eq_some_iff.1 hb)
      obtain ⟨e2, e4⟩ := (List.getElem?_eq_some_iff.1 h1)
      have hp := List.pairwise_iff_getElem.1 h.nodup
      rcases Nat.lt_or_gt_of_ne hij with hlt | hlt
      · exact hp i j e1 e2 hlt (by rw [e3, e4])
      · exact hp j i e2 e1 hlt (by rw [e3, e4])
end
structure ZNew (w : World) (p n : Nat) (w' : World) (bs : List Nat) (M : List (List Nat)) (ad : Option Addr) (cap : Nat) : Prop where
  at_ : ZAt w' p n bs M ad cap
  kp : Kp [] w w'
  new : ∀ b, b ∈ relBlks p ad bs → w.heap.size ≤ b
theorem ZNew.to {w1 w2 : World} {p n : Nat} {bs : List Nat} {M M' : List (List Nat)} {ad : Option Addr} {cap : Nat} (h : ZNew w p n w1 bs M ad cap) (k : ZTo w1 p n bs ad cap w2 M') : ZNew w p n w2 bs M' ad cap :=
  ⟨k.at_, h.kp.since k.kp h.new, h.new⟩
section
variable {p n : Nat} {bs : List Nat} {M : List (List Nat)} {ad : Option Addr} {cap : Nat}
theorem ZAt.cells (h : ZAt w p n bs M ad cap) {i : Nat} (hi : i < n) : ∃ ba b ws, ad = some ⟨ba, 0, none⟩ ∧ bs[i]? = some b ∧ M[i]? = some ws ∧ Blk w b (ws.map U) 151 ∧ ws.length = wid n ∧ WOk ws ∧ w.cell? ⟨ba, i, none⟩ = some (rowV (wid n) b) ∧ ∀ k, k < wid n → w.cell? ⟨b, k, none⟩ = some (U (ws.getD k 0)) := by
  obtain ⟨b, ws, h1, h2, h3, h4, h5⟩ := h.at_row hi
  have ho := h.own
  cases ad with
  | none => have := ho.2.1; omega
  | some ad =>
    obtain ⟨ba, off, spot⟩ := ad
    obtain ⟨e1, e2, _⟩ := ho.2
    cases e1; cases e2
    refine ⟨ba, b, ws, rfl, h1, h2, h3, h4, h5, ?_, fun k hk => ?_⟩
    · exact ho.get (by rw [List.getElem?_map, h1]; rfl)
    · refine h3.cell ?_
      rw [List.getElem?_map, List.getD_eq_getElem?_getD, List.getElem?_eq_getElem (by omega)]; rfl
theorem ZAt.nc {B : Nat} {w' : World} (h : ZAt w p n bs M ad cap) (hn : Nc B w w') : ZAt w' p n bs M ad cap :=
  ⟨hn.blk h.hdr, hn.own h.own, h.nb, h.nM, h.small, fun i b ws h1 h2 => ⟨hn.blk (h.row i b ws h1 h2).1, (h.row i b ws h1 h2).2⟩, h.nodup⟩
end
end Go.Vc
/- slices of records: where each lies, and what a store leaves. -/
namespace Go.Vc
open Go
variable {w : World} {α : Type} {f : α → List Value} {m : Nat}
theorem flC_len (hf : ∀ x, (f x).length = m) (l : List α) : (l.flatMap f).length = l.length * m := by
  induction l with
  | nil => simp
  | cons x r ih => rw [List.flatMap_cons, List.length_append, ih, hf, List.length_cons, Nat.succ_mul]; omega
theorem flC_at (hf : ∀ x, (f x).length = m) (h0 : 0 < m) : ∀ (l : List α) (k : Nat), (l.flatMap f)[k]? = (l[k / m]?).bind fun x => (f x)[k % m]?
  | [], k => by simp
  | y :: r, k => by
    rw [List.flatMap_cons]
    by_cases hk : k < m
    · rw [List.getElem?_append_left (by rw [hf]; exact hk), Nat.div_eq_of_lt hk, Nat.mod_eq_of_lt hk]; rfl
    · obtain ⟨k', rfl⟩ : ∃ k', k = k' + m := ⟨k - m, by omega⟩
      rw [List.getElem?_append_right (by rw [hf]; omega), hf, Nat.add_sub_cancel, flC_at hf h0 r k', Nat.add_div_right _ h0, Nat.add_mod_right]
      rfl
theorem flC_get (hf : ∀ x, (f x).length = m) {l : List α} {i j : Nat} {x : α} {v : Value} (hx : l[i]? = some x) (hv : (f x)[j]? = some v) : (l.flatMap f)[i * m + j]? = some v := by
  have hj : j < m := by rw [← hf x]; exact (List.getElem?_eq_some_iff.1 hv).1
  have e1 : (i * m + j) / m = i := by rw [Nat.mul_comm, Nat.mul_add_div (by omega), Nat.div_eq_of_lt hj]; omega
  have e2 : (i * m + j) % m = j := by rw [Nat.mul_comm, Nat.mul_add_mod, Nat.mod_eq_of_lt hj]
  rw [flC_at hf (by omega), e1, e2, hx]
  exact hv
theorem flC_set (hf : ∀ x, (f x).length = m) (h0 : 0 < m) {l : List α} {i : Nat} (x : α) (hi : i < l.length) (junk : List Value) : setMany (l.flatMap f ++ junk) (i * m) (f x) = (l.set i x).flatMap f ++ junk := by
  have hl := flC_len hf l
  have hl2 := flC_len hf (l.set i x)
  rw [List.length_set] at hl2
  have him : i * m + m ≤ l.length * m := by rw [← Nat.succ_mul]; exact Nat.mul_le_mul_right m hi
  apply List.ext_getElem?
  intro k
  rw [setMany_get _ _ _ _ (by rw [List.length_append, hf]; omega), hf]
  by_cases hk : i * m ≤ k ∧ k < i * m + m
  · obtain ⟨j, rfl⟩ : ∃ j, k = i * m + j := ⟨k - i * m, by omega⟩
    have hj : j < m := by omega
    have e1 : (i * m + j) / m = i := by rw [Nat.mul_comm, Nat.mul_add_div (by omega), Nat.div_eq_of_lt hj]; omega
    have e2 : (i * m + j) % m = j := by rw [Nat.mul_comm, Nat.mul_add_mod, Nat.mod_eq_of_lt hj]
    rw [if_pos hk, List.getElem?_append_left (by omega), flC_at hf h0, e1, e2, List.getElem?_set_self hi, Nat.add_sub_cancel_left]; rfl
  · rw [if_neg hk]
    by_cases hk2 : k < l.length * m
    · rw [List.getElem?_append_left (by omega), List.getElem?_append_left (by omega), flC_at hf h0, flC_at hf h0]
      have : k / m ≠ i := by
        rintro rfl
        have e := Nat.div_add_mod k m
        have h2 := Nat.mod_lt k h0
        rw [Nat.mul_comm] at e
        omega
      rw [List.getElem?_set_ne (fun e => this e.symm)]
    · rw [List.getElem?_append_right (by omega), List.getElem?_append_right (by omega), hl, hl2]
theorem set1_many (L : List Value) (i : Nat) (v : Value) : setMany L i [v] = L.set i v := rfl
theorem OwnS.rec {T : TypeId} {ad : Option Addr} {cap : Nat} {l : List α} (h : OwnS w T m ad l.length cap (l.flatMap f)) (hf : ∀ x, (f x).length = m) (h0 : 0 < m) {i : Nat} (hi : i < l.length) :
    ∃ b L, ad = some ⟨b, 0, none⟩ ∧ Blk w b L T ∧ i * m + m ≤ L.length ∧ (∀ x, l[i]? = some x → ∀ j v, (f x)[j]? = some v → L[i * m + j]? = some v) ∧
      ∀ x w', Upd w b (.cells ⟨setMany L (i * m) (f x)⟩ T (0, 0)) w' → OwnS w' T m ad l.length cap ((l.set i x).flatMap f) := by
  have hl := flC_len hf l
  have him : i * m + m ≤ l.length * m := by rw [← Nat.succ_mul]; exact Nat.mul_le_mul_right m hi
  cases ad with
  | none => obtain ⟨h1, _⟩ := h.2; omega
  | some ad =>
    obtain ⟨b, off, spot⟩ := ad
    obtain ⟨h1, h2, h3, h4, junk, h5, h6⟩ := h.2
    dsimp only at h1 h2 h5
    subst h1 h2
    refine ⟨b, l.flatMap f ++ junk, rfl, h5, by rw [List.length_append]; omega, fun x hx j v hv => ?_, fun x w' hu => ?_⟩
    · have := flC_get hf hx hv
      rw [List.getElem?_append_left (List.getElem?_eq_some_iff.1 this).1]; exact this
    · have hl2 := flC_len hf (l.set i x)
      rw [List.length_set] at hl2
      refine ⟨hl2, rfl, rfl, h3, h4, junk, ?_, ?_⟩
      · have := hu.blk
        rw [flC_set hf h0 x hi] at this
        exact this
      · rw [List.length_append] at h6 ⊢; omega
/-- one cell of a record is stored -/
theorem set_many_cell (L : List Value) {o j : Nat} {cs : List Value} {v : Value} (hL : ∀ j' v', cs[j']? = some v' → L[o + j']? = some v') (hlen : o + cs.length ≤ L.length) (hj : j < cs.length) : setMany L o (cs.set j v) = L.set (o + j) v := by
  apply List.ext_getElem?
  intro k
  rw [setMany_get _ _ _ _ (by simpa using hlen), List.length_set]
  by_cases hk : o ≤ k ∧ k < o + cs.length
  · rw [if_pos hk]
    obtain ⟨r, rfl⟩ : ∃ r, k = o + r := ⟨k - o, by omega⟩
    rw [Nat.add_sub_cancel_left]
    by_cases hr : j = r
    · subst hr
      rw [List.getElem?_set_self hj, List.getElem?_set_self (by omega)]
    · have hr2 : r < cs.length := by omega
      rw [List.getElem?_set_ne hr, List.getElem?_set_ne (by omega), List.getElem?_eq_getElem hr2, hL r _ (List.getElem?_eq_getElem hr2)]
  · rw [if_neg hk, List.getElem?_set_ne (by omega)]
theorem OwnS.readN {T : TypeId} {size : Nat} {ad : Option Addr} {n cap : Nat} {xs : List Value} (h : OwnS w T size ad n cap xs) : ReadS w ad xs := by
  cases ad with
  | none =>
    obtain ⟨h0, h1⟩ := h
    obtain ⟨h2, _⟩ := h1
    subst h2
    exact List.eq_nil_of_length_eq_zero (by omega)
  | some ad =>
    obtain ⟨b, off, spot⟩ := ad
    obtain ⟨_, h1, h2, _, _, junk, h5, _⟩ := h
    dsimp only at h1 h2 h5
    subst h1 h2
    refine ReadS.mk fun i v hv => ?_
    rw [Nat.zero_add]
    exact h5.cell (by rw [List.getElem?_append_left (List.getElem?_eq_some_iff.1 hv).1]; exact hv)
def upB (f : Nat → Bool) (k : Nat) (b : Bool) (i : Nat) : Bool := if i = k then b else f i
def bl (f : Nat → Bool) (n : Nat) : List Value := (List.range n).map fun i => .bool (f i)
open Classical in
noncomputable def propB (p : Prop) : Bool := decide p
end Go.Vc
