/- lockset: Events; lives. -/
import Derived.Test.YtkgjibhbhddckaaDoorQClKeeps28
import Derived.Test.YtkgjibhbhddckaaDoorQClKeeps16
namespace Go.Vc
open Go Go.Proofs
set_option maxRecDepth 10000
variable {w : World}
section
variable {g : KG} {s : Shp} {c : Ck}
/-- the state of a keeper, plainly -/
structure LS where
  c : Ck
  H : Int → List Nat
  V : List LV
def LS.VOk (S : LS) : Prop := ∀ v ∈ S.V, Go.Vc.VOk v
def stepL (S : LS) (e : Ev) (s : Shp) : LS := ⟨nextC s S.c e, eventH S.H e, eventV S.V (S.H e.t) e S.c.n⟩
theorem accL_ok {v : LV} {e : Ev} {h : List Nat} {a : Int} (hv : Go.Vc.VOk v) : Go.Vc.VOk (accL v e h a) := by
  have hw : ∀ u : LV, Go.Vc.VOk u → Go.Vc.VOk (warnL u a) := fun u hu => by unfold warnL; split <;> exact hu
  have hs : ∀ u : LV, (u.ph = 2 ∨ u.ph = 3) → u.ca.isSome = true → Go.Vc.VOk (sharedL u e h a) := fun u h1 h2 => by
    unfold sharedL
    apply hw
    refine .inr (.inr ⟨?_, by simpa using h2⟩)
    dsimp only
    split
    · exact .inr rfl
    · exact h1
  unfold accL
  dsimp only
  split
  · exact .inr (.inl rfl)
  · split
    · split
      · exact hv
      · exact hs _ (.inl rfl) rfl
    · rename_i h0 h1
      rcases hv with q | q | ⟨q1, q2⟩
      · exact absurd q h0
      · exact absurd q h1
      · exact hs _ q1 q2
theorem stepL_ok {S : LS} {e : Ev} {s : Shp} (h : S.VOk) : (stepL S e s).VOk := by
  intro v hv
  simp only [stepL, eventV] at hv
  split at hv
  · split at hv
    · rename_i u hu
      rcases List.mem_or_eq_of_mem_set hv with hv | rfl
      · exact h v hv
      · exact accL_ok (h u (List.mem_of_getElem? hu))
    · exact h v hv
  · exact h v hv
structure KS (w : World) (g : KG) (s : Shp) (S : LS) : Prop where
  at_ : KAt w g s S.c
  H : ∀ t, oL (g.H t) = S.H t
  V : g.vars.map varM = S.V
theorem KS.kp0 {S : LS} (h : KS w g s S) {w' : World} (hk : Kp [] w w') : KS w' g s S := ⟨h.at_.kp0 hk, h.H, h.V⟩
theorem Event_S {S : LS} (h : KS w g s S) (hv : S.VOk) (hn : S.c.n ≤ 4611686018427387904) (e : Ev) :
    Ret Tryd.prog 9 [ptr g.kp, .agg ⟨evC e⟩] w (fun v w' => (canB s S.c e = true ∧ v = I 0 ∧ ∃ g', KS w' g' s (stepL S e s) ∧ KTo w g w' g') ∨ (canB s S.c e = false ∧ v = I 6 ∧ Kp [] w w')) := by
  refine (kEvent_ret h.at_ hn (fun x hx => hv _ (by rw [← h.V]; exact List.mem_map.2 ⟨x, hx, rfl⟩)) e).mono fun v w' hh => ?_
  rcases hh with ⟨h1, h2, g', h3, h4, h5, h6⟩ | hh
  · refine .inl ⟨h1, h2, g', ⟨h3, fun t => ?_, ?_⟩, h4⟩
    · rw [h5]
      have : (fun t => oL (g.H t)) = S.H := funext h.H
      rw [this]; rfl
    · rw [h6, h.V, h.H]; rfl
  · exact .inr hh
/-- behind so many events -/
def runN (s : Shp) (S : LS) (l : List Ev) (i : Nat) : LS := (l.take i).foldl (fun S e => stepL S e s) S
theorem runN_succ {s : Shp} {S : LS} {l : List Ev} {i : Nat} {e : Ev} (h : l[i]? = some e) : runN s S l (i + 1) = stepL (runN s S l i) e s := by
  unfold runN
  rw [List.take_add_one, h, List.foldl_append]; rfl
theorem runN_n {s : Shp} {S : LS} {l : List Ev} : ∀ i, i ≤ l.length → (runN s S l i).c.n = S.c.n + i
  | 0, _ => rfl
  | i + 1, h => by
    obtain ⟨e, he⟩ : ∃ e, l[i]? = some e := ⟨_, List.getElem?_eq_getElem (by omega)⟩
    rw [runN_succ he]
    have := runN_n (s := s) (S := S) (l := l) i (by omega)
    show (nextC s (runN s S l i).c e).n = _
    rw [nextC_n, this]; omega
theorem runN_ok {s : Shp} {S : LS} {l : List Ev} (h : S.VOk) : ∀ i, i ≤ l.length → (runN s S l i).VOk
  | 0, _ => h
  | i + 1, hi => by
    obtain ⟨e, he⟩ : ∃ e, l[i]? = some e := ⟨_, List.getElem?_eq_getElem (by omega)⟩
    rw [runN_succ he]
    exact stepL_ok (runN_ok h i (by omega))
set_option maxHeartbeats 1600000 in
theorem Events_S {S : LS} (h : KS w g s S) (hv : S.VOk) (hn : S.c.n ≤ 2305843009213693952) {ad : Option Addr} {l : List Ev} {cap : Nat} (hr : ReadS w ad (evsC l)) (hin : ∀ b, b ∈ blkOf ad → ¬ g.In b) (hl : l.length ≤ 1048576) :
    Ret Tryd.prog 17 [ptr g.kp, .slice ad l.length cap] w (fun v w' => ∃ k g', k ≤ l.length ∧ v = .tuple #[I k, I (if k = l.length then 0 else 6)] ∧ KS w' g' s (runN s S l k) ∧ KTo w g w' g' ∧ (∀ j e, j < k → l[j]? = some e → canB s (runN s S l j).c e = true) ∧ ∀ e, l[k]? = some e → canB s (runN s S l k).c e = false) := by
  refine enter Tryd.call17 Tryd.func17 rfl rfl rfl rfl ?_
  (repeat first|refine zA ?_|refine zB ?_|refine zg ?_|refine zo rfl rfl trivial ?_|refine zn ?_)
  refine o_call (kthere_ret h.at_) rfl rfl rfl ?_
  rintro v wx ⟨rfl, rfl⟩
  (repeat first|refine zA ?_|refine zB ?_|refine zg ?_|refine zo rfl rfl trivial ?_|refine zn ?_|refine zb ?_|refine zk ?_|refine zf rfl ?_)
  refine r_loop (α := Nat) [0, 1, 12, 13, 14] (fun i => [ptr g.kp, .slice ad l.length cap, .slice ad l.length cap, I l.length, I i]) (fun i w1 => (∃ g', KS w1 g' s (runN s S l i) ∧ KTo wx g w1 g') ∧ i ≤ l.length ∧ (∀ j e, j < i → l[j]? = some e → canB s (runN s S l j).c e = true)) (fun i => l.length - i) 0 rfl ⟨⟨g, h, KTo.refl _ _⟩, by omega, fun j e hj => by omega⟩ ?_
  rintro i e w1 ⟨⟨g1, h1, t1⟩, hi, hok⟩
  (repeat first|refine zA ?_|refine zD ?_|refine zg ?_|refine zo rfl rfl trivial ?_|refine zn ?_)
  refine r_if rfl (fun hc => ?_) (fun hc => ?_)
  · have hlt : i < l.length := by omega
    obtain ⟨x, hx⟩ : ∃ x, l[i]? = some x := ⟨_, List.getElem?_eq_getElem hlt⟩
    obtain ⟨b, off, rfl, hb, hcell⟩ := hr.at_ (by rw [evsC_len]; omega)
    have hkeep := t1.kq.at_ b hb (hin b (by simp [blkOf]))
    (repeat first|refine zA ?_|refine zC ?_|refine zg ?_|refine zo rfl rfl (by first|exact trivial|(simp only[AllP];omega)) ?_|refine zb ?_|refine zk ?_)
    refine o_loadA (vs := evC x) rfl (fun j v hv => ?_) rfl rfl rfl rfl rfl rfl ?_
    · have h2 := hcell _ _ (evsC_get hx j v hv)
      rw [Int.toNat_natCast, Nat.add_assoc, ← h2]
      exact World.cell?_of_block hkeep
    refine o_alloc rfl rfl rfl rfl ?_
    intro be w2 hbe hu2
    (repeat refine zo rfl rfl trivial ?_)
    refine o_storeA (cs := evC x) rfl hu2.blk (Nat.le_refl _) rfl (by simp [Value.oneCell']) rfl rfl rfl rfl ?_
    intro w3 hu3
    have k3 : Kp [] w1 w3 := (hu2.kp [] (.inr (by omega))).since (hu3.kp [be] (.inl (by simp))) (by simp; omega)
    have hB3 : Blk w3 be (evC x) 35 := hu3.blk
    (repeat first|refine zA ?_|refine zg ?_|refine zo rfl rfl trivial ?_|refine zn ?_)
    refine o_loadA (vs := evC x) rfl (fun j v hv => by rw [Nat.zero_add]; exact hB3.cell hv) rfl rfl rfl rfl rfl rfl ?_
    have h3 := h1.kp0 k3
    have hn3 := runN_n (s := s) (S := S) (l := l) i hi
    have ek : ptr g.kp = ptr g1.kp := by rw [t1.kp]
    refine o_call (vs := [ptr g1.kp, .agg ⟨evC x⟩]) (Event_S h3 (runN_ok hv i hi) (by omega) x) (by rw [← ek]; rfl) rfl rfl ?_
    rintro v w4 (⟨hcan, rfl, g4, h4, t4⟩ | ⟨hcan, rfl, k4⟩)
    · (repeat first|refine zA ?_|refine zg ?_|refine zo rfl rfl (by first|exact trivial|(simp only[AllP];omega)) ?_|refine zn ?_|refine zk ?_|refine zf rfl ?_)
      refine ⟨i + 1, rfl, ⟨⟨g4, by rw [runN_succ hx]; exact h4, (t1.trans (KTo.of0 k3)).trans t4⟩, by omega, fun j e hj he => ?_⟩, by omega⟩
      by_cases hji : j = i
      · subst hji; rw [hx] at he; cases he; exact hcan
      · exact hok j e (by omega) he
    · (repeat first|refine zA ?_|refine zg ?_|refine zo rfl rfl trivial ?_|refine zn ?_|refine zr ?_|refine zt rfl ?_)
      refine ⟨_, rfl, i, g1, hi, by rw [if_neg (by omega)], h3.kp0 k4, (t1.trans (KTo.of0 k3)).trans (KTo.of0 k4), hok, fun e he => ?_⟩
      rw [hx] at he; cases he; exact hcan
  · have hin2 : i = l.length := by omega
    (repeat first|refine zA ?_|refine zg ?_|refine zo rfl rfl trivial ?_|refine zn ?_|refine ze rfl ?_|refine zr ?_)
    exact ⟨_, rfl, i, g1, hi, by rw [if_pos hin2, hin2], h1, t1, hok, fun e he => by rw [List.getElem?_eq_none (by omega)] at he; cases he⟩
end
end Go.Vc
/- bits: a relation in memory; NewRelation, Size, Link, Linked. -/
namespace Go.Vc
open Go Go.Proofs
set_option maxRecDepth 10000
variable {w : World}

def wid (n : Nat) : Nat := (n + 63) / 64
abbrev rowV (W : Nat) (b : Nat) : Value := .slice (some ⟨b, 0, none⟩) W W
/-- a relation at p: of n nodes, its rows' blocks bs, its words M -/
structure RelAt (w : World) (p n : Nat) (bs : List Nat) (M : List (List Nat)) (ad : Option Addr) (cap : Nat) : Prop where
  hdr : Blk w p [B true, I n, .slice ad n cap] 171
  own : OwnS w 148 1 ad n cap (bs.map (rowV (wid n)))
  nb : bs.length = n
  nM : M.length = n
  small : n ≤ 2048
  row : ∀ (i b : Nat) (ws : List Nat), bs[i]? = some b → M[i]? = some ws → Blk w b (ws.map U) 151 ∧ ws.length = wid n ∧ WOk ws
  nodup : bs.Nodup
  far : 0 ∉ p :: (blkOf ad ++ bs)
def relBlks (p : Nat) (ad : Option Addr) (bs : List Nat) : List Nat := p :: (blkOf ad ++ bs)
section
variable {p n : Nat} {bs : List Nat} {M : List (List Nat)} {ad : Option Addr} {cap : Nat}
theorem RelAt.at_row (h : RelAt w p n bs M ad cap) {i : Nat} (hi : i < n) : ∃ b ws, bs[i]? = some b ∧ M[i]? = some ws ∧ Blk w b (ws.map U) 151 ∧ ws.length = wid n ∧ WOk ws := by
  have h1 : bs[i]? = some (bs[i]'(by rw [h.nb]; exact hi)) := List.getElem?_eq_getElem _
  have h2 : M[i]? = some (M[i]'(by rw [h.nM]; exact hi)) := List.getElem?_eq_getElem _
  exact ⟨_, _, h1, h2, h.row i _ _ h1 h2⟩
theorem RelAt.kp {w' : World} (h : RelAt w p n bs M ad cap) {S : List Nat} (hk : Kp S w w') (hd : ∀ b, b ∈ relBlks p ad bs → b ∉ S) : RelAt w' p n bs M ad cap :=
  ⟨hk.blk (hd p (by simp [relBlks])) h.hdr, h.own.kp hk (fun b hb => hd b (by simp [relBlks, hb])), h.nb, h.nM, h.small,
    fun i b ws h1 h2 => ⟨hk.blk (hd b (by simp [relBlks, List.mem_of_getElem? h1])) (h.row i b ws h1 h2).1, (h.row i b ws h1 h2).2⟩, h.nodup, h.far⟩
theorem RelAt.kp0 {w' : World} (h : RelAt w p n bs M ad cap) (hk : Kp [] w w') : RelAt w' p n bs M ad cap := h.kp hk (by simp)
theorem RelAt.sm {w' : World} (h : RelAt w p n bs M ad cap) (hs : Sm w w') : RelAt w' p n bs M ad cap := h.kp0 (hs.kp [])
theorem RelAt.lt (h : RelAt w p n bs M ad cap) : ∀ b, b ∈ relBlks p ad bs → b < w.heap.size := by
  intro b hb
  rcases List.mem_cons.1 hb with rfl | hb
  · exact h.hdr.lt
  · rcases List.mem_append.1 hb with hb | hb
    · exact h.own.lt b hb
    · obtain ⟨i, hi⟩ := List.getElem?_of_mem hb
      have hlt : i < n := by rw [← h.nb]; exact (List.getElem?_eq_some_iff.1 hi).1
      obtain ⟨b', ws, h1, _, h3, _⟩ := h.at_row hlt
      rw [hi] at h1; cases h1; exact h3.lt
/-- the relation has been turned in place -/
structure RelTo (w : World) (p n : Nat) (bs : List Nat) (ad : Option Addr) (cap : Nat) (w' : World) (M' : List (List Nat)) : Prop where
  at_ : RelAt w' p n bs M' ad cap
  kp : Kp (relBlks p ad bs) w w'
theorem RelTo.refl (h : RelAt w p n bs M ad cap) : RelTo w p n bs ad cap w M := ⟨h, Kp.refl _ _⟩
theorem RelTo.trans {w1 w2 : World} {M1 M2 : List (List Nat)} (h : RelTo w p n bs ad cap w1 M1) (k : RelTo w1 p n bs ad cap w2 M2) : RelTo w p n bs ad cap w2 M2 := ⟨k.at_, h.kp.trans k.kp⟩
theorem RelTo.sm {w1 w2 : World} {M1 : List (List Nat)} (h : RelTo w p n bs ad cap w1 M1) (hs : Sm w1 w2) : RelTo w p n bs ad cap w2 M1 := ⟨h.at_.sm hs, h.kp.trans (hs.kp _)⟩
theorem relRow_ne {b1 b2 : Nat} {l1 l2 : List Value} {T1 T2 : TypeId} (h1 : Blk w b1 l1 T1) (h2 : Blk w b2 l2 T2) (hT : T1 ≠ T2) : b1 ≠ b2 := by
  rintro rfl
  unfold Blk at h1 h2
  rw [h1] at h2
  simp at h2
  exact hT h2.2
theorem RelAt.ad_blk (h : RelAt w p n bs M ad cap) {b : Nat} (hb : b ∈ blkOf ad) : ∃ l, Blk w b l 148 := by
  have ho := h.own.2
  cases ad with
  | none => simp [blkOf] at hb
  | some ad =>
    simp [blkOf] at hb; subst hb
    obtain ⟨_, _, _, _, junk, h5, _⟩ := ho
    exact ⟨_, h5⟩
/-- a word of a row is stored -/
theorem RelAt.stored {w1 w2 : World} (h : RelAt w p n bs M ad cap) (hs : Sm w w1) {i b k x : Nat} {ws : List Nat} (hb : bs[i]? = some b) (hM : M[i]? = some ws) (hx : x < 2 ^ 64)
    (hu : Upd w1 b (.cells ⟨(ws.map U).set k (U x)⟩ 151 (0, 0)) w2) : RelTo w p n bs ad cap w2 (M.set i (ws.set k x)) := by
  obtain ⟨hB, hl, hok⟩ := h.row i b ws hb hM
  have hmem : b ∈ bs := List.mem_of_getElem? hb
  have hpb : p ≠ b := relRow_ne h.hdr hB (by decide)
  have hi : i < M.length := (List.getElem?_eq_some_iff.1 hM).1
  refine ⟨⟨hu.kept hpb (hs.blk h.hdr), ?_, h.nb, by simpa using h.nM, h.small, ?_, h.nodup, h.far⟩, (hs.kp _).trans (hu.kp _ (.inl (by simp [relBlks, hmem])))⟩
  · refine (h.own.sm hs).upd hu fun hb2 => ?_
    obtain ⟨l, hl2⟩ := h.ad_blk hb2
    exact relRow_ne hl2 hB (by decide) rfl
  · intro j b' ws' h1 h2
    by_cases hij : i = j
    · subst hij
      rw [hb] at h1; cases h1
      rw [List.getElem?_set_self hi] at h2
      cases h2
      refine ⟨?_, by simpa using hl, hok.set hx⟩
      have := hu.blk
      rwa [List.map_set]
    · rw [List.getElem?_set_ne hij] at h2
      obtain ⟨g1, g2⟩ := h.row j b' ws' h1 h2
      refine ⟨hu.kept (fun e => ?_) (hs.blk g1), g2⟩
      subst e
      obtain ⟨e1, e3⟩ := (List.getElem?_eq_some_iff.1 hb)
      obtain ⟨e2, e4⟩ := (List.getElem?_eq_some_iff.1 h1)
      have hp := List.pairwise_iff_getElem.1 h.nodup
      rcases Nat.lt_or_gt_of_ne hij with hlt | hlt
      · exact hp i j e1 e2 hlt (by rw [e3, e4])
      · exact hp j i e2 e1 hlt (by rw [e3, e4])
end
/-- is i linked to j -/
def bitM (M : List (List Nat)) (i j : Nat) : Bool := bit (M.getD i []) j
theorem bitM_row {M : List (List Nat)} {i : Nat} {ws : List Nat} (h : M[i]? = some ws) (j : Nat) : bitM M i j = bit ws j := by unfold bitM; rw [List.getD_eq_getElem?_getD, h]; rfl
def nodeB (n : Nat) (i : Int) : Bool := decide (0 ≤ i) && decide (i < n)
/-! ### NewRelation -/
def zeroM (n : Nat) : List (List Nat) := List.replicate n (List.replicate (wid n) 0)
theorem bitM_zero (n i j : Nat) : bitM (zeroM n) i j = false := by
  unfold bitM zeroM bit
  rw [List.getD_eq_getElem?_getD (l := List.replicate n _), List.getElem?_replicate]
  split
  · simp only [Option.getD_some]
    rw [List.getD_eq_getElem?_getD, List.getElem?_replicate]
    split <;> simp
  · simp
structure NewRel (w : World) (p n : Nat) (w' : World) (bs : List Nat) (M : List (List Nat)) (ad : Option Addr) (cap : Nat) : Prop where
  at_ : RelAt w' p n bs M ad cap
  kp : Kp [] w w'
  new : ∀ b, b ∈ relBlks p ad bs → w.heap.size ≤ b
theorem NewRel.to {w1 w2 : World} {p n : Nat} {bs : List Nat} {M M' : List (List Nat)} {ad : Option Addr} {cap : Nat} (h : NewRel w p n w1 bs M ad cap) (k : RelTo w1 p n bs ad cap w2 M') : NewRel w p n w2 bs M' ad cap :=
  ⟨k.at_, h.kp.since k.kp h.new, h.new⟩
end Go.Vc
/- bits: relations: Link, Linked, Row, the copy of the rows, the pairs' iterator. -/
namespace Go.Vc
open Go Go.Proofs
set_option maxRecDepth 10000
variable {w : World}

section
variable {p n : Nat} {bs : List Nat} {M : List (List Nat)} {ad : Option Addr} {cap : Nat}
/-- a row's cell, a word's cell -/
theorem RelAt.cells (h : RelAt w p n bs M ad cap) {i : Nat} (hi : i < n) : ∃ ba b ws, ad = some ⟨ba, 0, none⟩ ∧ bs[i]? = some b ∧ M[i]? = some ws ∧ Blk w b (ws.map U) 151 ∧ ws.length = wid n ∧ WOk ws ∧ w.cell? ⟨ba, i, none⟩ = some (rowV (wid n) b) ∧ ∀ k, k < wid n → w.cell? ⟨b, k, none⟩ = some (U (ws.getD k 0)) := by
  obtain ⟨b, ws, h1, h2, h3, h4, h5⟩ := h.at_row hi
  have ho := h.own
  cases ad with
  | none => have := ho.2.1; omega
  | some ad =>
    obtain ⟨ba, off, spot⟩ := ad
    obtain ⟨e1, e2, _⟩ := ho.2
    cases e1; cases e2
    refine ⟨ba, b, ws, rfl, h1, h2, h3, h4, h5, ?_, fun k hk => ?_⟩
    · exact ho.get (by rw [List.getElem?_map, h1]; rfl)
    · refine h3.cell ?_
      rw [List.getElem?_map, List.getD_eq_getElem?_getD, List.getElem?_eq_getElem (by omega)]; rfl
theorem nodeB_nat {x : Int} (h : nodeB n x = true) : ∃ k : Nat, x = (k : Int) ∧ k < n := by
  unfold nodeB at h
  simp only [Bool.and_eq_true, decide_eq_true_eq] at h
  exact ⟨x.toNat, by omega, by omega⟩
def linkM (M : List (List Nat)) (i j : Nat) : List (List Nat) := M.set i ((M.getD i []).set (j / 64) ((M.getD i []).getD (j / 64) 0 ||| 2 ^ (j % 64)))
theorem wid_lt {j : Nat} (h : j < n) : j / 64 < wid n := by unfold wid; omega
def linkedB (n : Nat) (M : List (List Nat)) (i j : Int) : Bool := nodeB n i && nodeB n j && bitM M i.toNat j.toNat
/-! ### The copy of the rows -/
/-- rows that lie in a block: their slices As, their words M -/
structure RowsAt (w : World) (bc n : Nat) (As : List (Option Addr × Nat)) (M : List (List Nat)) : Prop where
  blk : Blk w bc (As.map fun x => Value.slice x.1 (wid n) x.2) 148
  nA : As.length = n
  nM : M.length = n
  row : ∀ (i : Nat) (x : Option Addr × Nat) (ws : List Nat), As[i]? = some x → M[i]? = some ws → OwnS w 151 1 x.1 (wid n) x.2 (ws.map U) ∧ WOk ws ∧ ws.length = wid n
def rowsBlks (bc : Nat) (As : List (Option Addr × Nat)) : List Nat := bc :: As.flatMap fun x => blkOf x.1
theorem RowsAt.keep {w' : World} {bc : Nat} {As : List (Option Addr × Nat)} (h : RowsAt w bc n As M) (hk : ∀ b, b ∈ rowsBlks bc As → w'.heap[b]? = w.heap[b]?) : RowsAt w' bc n As M :=
  ⟨by unfold Blk; rw [hk bc (by simp [rowsBlks])]; exact h.blk, h.nA, h.nM, fun i x ws h1 h2 => ⟨(h.row i x ws h1 h2).1.keep (fun b hb => hk b (by
    unfold rowsBlks
    refine List.mem_cons_of_mem _ (List.mem_flatMap.2 ⟨x, List.mem_of_getElem? h1, hb⟩))), (h.row i x ws h1 h2).2⟩⟩
theorem RowsAt.lt {bc : Nat} {As : List (Option Addr × Nat)} (h : RowsAt w bc n As M) : ∀ b, b ∈ rowsBlks bc As → b < w.heap.size := by
  intro b hb
  rcases List.mem_cons.1 hb with rfl | hb
  · exact h.blk.lt
  · obtain ⟨x, hx, hb⟩ := List.mem_flatMap.1 hb
    obtain ⟨i, hi⟩ := List.getElem?_of_mem hx
    have hlt : i < M.length := by rw [h.nM, ← h.nA]; exact (List.getElem?_eq_some_iff.1 hi).1
    exact (h.row i x M[i] hi (List.getElem?_eq_getElem hlt)).1.lt b hb
end
end Go.Vc
/- bits: relations: the pairs' iterator, the law's pairs, Turned, Close. -/
namespace Go.Vc
open Go Go.Proofs
set_option maxRecDepth 10000
variable {w : World}

def rowPairs (M : List (List Nat)) (i : Nat) : List (Nat × Nat) := (elems (M.getD i [])).map fun j => (i, j)
def pairsL (n : Nat) (M : List (List Nat)) : List (Nat × Nat) := (List.range n).flatMap (rowPairs M)
abbrev encP (x : Nat × Nat) : List Value := [I (x.1 : Int), I (x.2 : Int)]
/-- a sequence of pairs: a function value that tells them -/
structure SeqP (w : World) (v : Value) (Fp : List Nat) (xs : List (Nat × Nat)) : Prop where
  is : ∃ f lb, v = .func (.func f) #[] ⟨lb⟩ ∧ Iter Tryd.prog f lb Fp encP xs w
theorem SeqP.kp {w w' : World} {v : Value} {Fp : List Nat} {xs : List (Nat × Nat)} (h : SeqP w v Fp xs) {S : List Nat} (hk : Kp S w w') (hd : ∀ b, b ∈ Fp → b ∉ S) : SeqP w' v Fp xs := by
  obtain ⟨f, lb, h1, h2⟩ := h.is
  exact ⟨f, lb, h1, h2.kp hk.size (fun b hb => hk.at_ b (h2.1 b hb) (hd b hb))⟩
theorem SeqP.lt {v : Value} {Fp : List Nat} {xs : List (Nat × Nat)} (h : SeqP w v Fp xs) : ∀ b, b ∈ Fp → b < w.heap.size := by
  obtain ⟨f, lb, h1, h2⟩ := h.is
  exact h2.1
/-! ### pairs: the law's reading -/
def pairsN (xs : List (Nat × Nat)) (most : Int) : List (Nat × Nat) := if 0 ≤ most then xs.take most.toNat else xs
def flatP (xs : List (Nat × Nat)) : List Nat := xs.flatMap fun x => [x.1, x.2]
structure PairsI (w : World) (bm bx bn : Nat) (most : Int) (pre : List (Nat × Nat)) (W : World) (ad : Option Addr) (cap : Nat) : Prop where
  bm_ : Blk W bm [I most] 3
  bn_ : Blk W bn [I pre.length] 3
  bx_ : Blk W bx [.slice ad (flatP pre).length cap] 22
  own : OwnS W 3 1 ad (flatP pre).length cap ((flatP pre).map encI)
  kp : Kp [] w W
  ne : bx ∉ blkOf ad
  nn : bn ∉ bm :: bx :: blkOf ad
  nm : bm ∉ bx :: blkOf ad
  new : ∀ b, b ∈ blkOf ad → w.heap.size ≤ b
  new3 : w.heap.size ≤ bm ∧ w.heap.size ≤ bx ∧ w.heap.size ≤ bn
  few : 0 ≤ most → (pre.length : Int) ≤ most
theorem PairsI.nc {bm bx bn : Nat} {most : Int} {pre : List (Nat × Nat)} {W W' : World} {ad : Option Addr} {cap B : Nat} (h : PairsI w bm bx bn most pre W ad cap) (hn : Nc B W W') (hB : w.heap.size ≤ B) : PairsI w bm bx bn most pre W' ad cap :=
  ⟨hn.blk h.bm_, hn.blk h.bn_, hn.blk h.bx_, hn.own h.own, hn.kp h.kp hB, h.ne, h.nn, h.nm, h.new, h.new3, h.few⟩
end Go.Vc
/- bits: relations: Turned, Close. -/
namespace Go.Vc
open Go Go.Proofs
set_option maxRecDepth 10000
variable {w : World}

section
variable {p n : Nat} {bs : List Nat} {M : List (List Nat)} {ad : Option Addr} {cap : Nat}
theorem RelAt.nc {B : Nat} {w' : World} (h : RelAt w p n bs M ad cap) (hn : Nc B w w') : RelAt w' p n bs M ad cap :=
  ⟨hn.blk h.hdr, hn.own h.own, h.nb, h.nM, h.small, fun i b ws h1 h2 => ⟨hn.blk (h.row i b ws h1 h2).1, (h.row i b ws h1 h2).2⟩, h.nodup, h.far⟩
/-- each link stays among the nodes -/
def InB (n : Nat) (M : List (List Nat)) : Prop := ∀ i j, bitM M i j = true → j < n
def turnedM (n : Nat) (xs : List (Nat × Nat)) : List (List Nat) := xs.foldl (fun T x => linkM T x.2 x.1) (zeroM n)
/-! ### Close -/
def orRow (a b : List Nat) : List Nat := updW (· ||| ·) a b b.length
def stepK (n : Nat) (M : List (List Nat)) (k : Nat) (m : Nat) : List (List Nat) := (List.range m).foldl (fun T i => if bitM T i k then T.set i (orRow (T.getD i []) (T.getD k [])) else T) M
def closeTo (n : Nat) (M : List (List Nat)) (m : Nat) : List (List Nat) := (List.range m).foldl (fun T k => stepK n T k n) M
def closeM (n : Nat) (M : List (List Nat)) : List (List Nat) := closeTo n M n
theorem stepK_succ (n : Nat) (M : List (List Nat)) (k m : Nat) : stepK n M k (m + 1) = if bitM (stepK n M k m) m k then (stepK n M k m).set m (orRow ((stepK n M k m).getD m []) ((stepK n M k m).getD k [])) else stepK n M k m := by
  unfold stepK; rw [List.range_succ, List.foldl_append]; rfl
theorem closeTo_succ (n : Nat) (M : List (List Nat)) (m : Nat) : closeTo n M (m + 1) = stepK n (closeTo n M m) m n := by
  unfold closeTo; rw [List.range_succ, List.foldl_append]; rfl
theorem set_self {M : List (List Nat)} {i : Nat} {ws : List Nat} (h : M[i]? = some ws) : M.set i ws = M := by
  apply List.ext_getElem?
  intro j
  rw [List.getElem?_set]
  split
  · rename_i e; subst e
    split
    · exact h.symm
    · rename_i hl; rw [List.getElem?_eq_none (by omega)]
  · rfl
end
end Go.Vc
