/- bits: a relation in memory; NewRelation, Size, Link, Linked. -/
import Derived.Test.YtdfkhnhmcanncaaDoorBt18
namespace Go.Vc
open Go Go.Proofs
set_option maxRecDepth 10000
variable {w : World}

def wid (n : Nat) : Nat := (n + 63) / 64
abbrev rowV (W : Nat) (b : Nat) : Value := .slice (some ⟨b, 0, none⟩) W W
/-- a relation at p: of n nodes, its rows' blocks bs, its words M -/
structure RelAt (w : World) (p n : Nat) (bs : List Nat) (M : List (List Nat)) (ad : Option Addr) (cap : Nat) : Prop where
  hdr : Blk w p [B true, I n, .slice ad n cap] 100
  own : OwnS w 40 1 ad n cap (bs.map (rowV (wid n)))
  nb : bs.length = n
  nM : M.length = n
  small : n ≤ 2048
  row : ∀ (i b : Nat) (ws : List Nat), bs[i]? = some b → M[i]? = some ws → Blk w b (ws.map U) 41 ∧ ws.length = wid n ∧ WOk ws
  nodup : bs.Nodup
  far : 0 ∉ p :: (blkOf ad ++ bs)
def relBlks (p : Nat) (ad : Option Addr) (bs : List Nat) : List Nat := p :: (blkOf ad ++ bs)
section
variable {p n : Nat} {bs : List Nat} {M : List (List Nat)} {ad : Option Addr} {cap : Nat}
theorem RelAt.at_row (h : RelAt w p n bs M ad cap) {i : Nat} (hi : i < n) : ∃ b ws, bs[i]? = some b ∧ M[i]? = some ws ∧ Blk w b (ws.map U) 41 ∧ ws.length = wid n ∧ WOk ws := by
  have h1 : bs[i]? = some (bs[i]'(by rw [h.nb]; exact hi)) := List.getElem?_eq_getElem _
  have h2 : M[i]? = some (M[i]'(by rw [h.nM]; exact hi)) := List.getElem?_eq_getElem _
  exact ⟨_, _, h1, h2, h.row i _ _ h1 h2⟩
theorem RelAt.kp {w' : World} (h : RelAt w p n bs M ad cap) {S : List Nat} (hk : Kp S w w') (hd : ∀ b, b ∈ relBlks p ad bs → b ∉ S) : RelAt w' p n bs M ad cap :=
  ⟨hk.blk (hd p (by simp [relBlks])) h.hdr, h.own.kp hk (fun b hb => hd b (by simp [relBlks, hb])), h.nb, h.nM, h.small,
    fun i b ws h1 h2 => ⟨hk.blk (hd b (by simp [relBlks, List.mem_of_getElem? h1])) (h.row i b ws h1 h2).1, (h.row i b ws h1 h2).2⟩, h.nodup, h.far⟩
theorem RelAt.kp0 {w' : World} (h : RelAt w p n bs M ad cap) (hk : Kp [] w w') : RelAt w' p n bs M ad cap := h.kp hk (by simp)
theorem RelAt.sm {w' : World} (h : RelAt w p n bs M ad cap) (hs : Sm w w') : RelAt w' p n bs M ad cap := h.kp0 (hs.kp [])
theorem RelAt.lt (h : RelAt w p n bs M ad cap) : ∀ b, b ∈ relBlks p ad bs → b < w.heap.size := by
  intro b hb
  rcases List.mem_cons.1 hb with rfl | hb
  · exact h.hdr.lt
  · rcases List.mem_append.1 hb with hb | hb
    · exact h.own.lt b hb
    · obtain ⟨i, hi⟩ := List.getElem?_of_mem hb
      have hlt : i < n := by rw [← h.nb]; exact (List.getElem?_eq_some_iff.1 hi).1
      obtain ⟨b', ws, h1, _, h3, _⟩ := h.at_row hlt
      rw [hi] at h1; cases h1; exact h3.lt
/-- the relation has been turned in place -/
structure RelTo (w : World) (p n : Nat) (bs : List Nat) (ad : Option Addr) (cap : Nat) (w' : World) (M' : List (List Nat)) : Prop where
  at_ : RelAt w' p n bs M' ad cap
  kp : Kp (relBlks p ad bs) w w'
theorem RelTo.refl (h : RelAt w p n bs M ad cap) : RelTo w p n bs ad cap w M := ⟨h, Kp.refl _ _⟩
theorem RelTo.trans {w1 w2 : World} {M1 M2 : List (List Nat)} (h : RelTo w p n bs ad cap w1 M1) (k : RelTo w1 p n bs ad cap w2 M2) : RelTo w p n bs ad cap w2 M2 := ⟨k.at_, h.kp.trans k.kp⟩
theorem RelTo.sm {w1 w2 : World} {M1 : List (List Nat)} (h : RelTo w p n bs ad cap w1 M1) (hs : Sm w1 w2) : RelTo w p n bs ad cap w2 M1 := ⟨h.at_.sm hs, h.kp.trans (hs.kp _)⟩
theorem relRow_ne {b1 b2 : Nat} {l1 l2 : List Value} {T1 T2 : TypeId} (h1 : Blk w b1 l1 T1) (h2 : Blk w b2 l2 T2) (hT : T1 ≠ T2) : b1 ≠ b2 := by
  rintro rfl
  unfold Blk at h1 h2
  rw [h1] at h2
  simp at h2
  exact hT h2.2
theorem RelAt.ad_blk (h : RelAt w p n bs M ad cap) {b : Nat} (hb : b ∈ blkOf ad) : ∃ l, Blk w b l 40 := by
  have ho := h.own.2
  cases ad with
  | none => simp [blkOf] at hb
  | some ad =>
    simp [blkOf] at hb; subst hb
    obtain ⟨_, _, _, _, junk, h5, _⟩ := ho
    exact ⟨_, h5⟩
/-- a word of a row is stored -/
theorem RelAt.stored {w1 w2 : World} (h : RelAt w p n bs M ad cap) (hs : Sm w w1) {i b k x : Nat} {ws : List Nat} (hb : bs[i]? = some b) (hM : M[i]? = some ws) (hx : x < 2 ^ 64)
    (hu : Upd w1 b (.cells ⟨(ws.map U).set k (U x)⟩ 41 (0, 0)) w2) : RelTo w p n bs ad cap w2 (M.set i (ws.set k x)) := by
  obtain ⟨hB, hl, hok⟩ := h.row i b ws hb hM
  have hmem : b ∈ bs := List.mem_of_getElem? hb
  have hpb : p ≠ b := relRow_ne h.hdr hB (by decide)
  have hi : i < M.length := (List.getElem?_eq_some_iff.1 hM).1
  refine ⟨⟨hu.kept hpb (hs.blk h.hdr), ?_, h.nb, by simpa using h.nM, h.small, ?_, h.nodup, h.far⟩, (hs.kp _).trans (hu.kp _ (.inl (by simp [relBlks, hmem])))⟩
  · refine (h.own.sm hs).upd hu fun hb2 => ?_
    obtain ⟨l, hl2⟩ := h.ad_blk hb2
    exact relRow_ne hl2 hB (by decide) rfl
  · intro j b' ws' h1 h2
    by_cases hij : i = j
    · subst hij
      rw [hb] at h1; cases h1
      rw [List.getElem?_set_self hi] at h2
      cases h2
      refine ⟨?_, by simpa using hl, hok.set hx⟩
      have := hu.blk
      rwa [List.map_set]
    · rw [List.getElem?_set_ne hij] at h2
      obtain ⟨g1, g2⟩ := h.row j b' ws' h1 h2
      refine ⟨hu.kept (fun e => ?_) (hs.blk g1), g2⟩
      subst e
      obtain ⟨e1, e3⟩ := (List.getElem?_eq_some_iff.1 hb)
      obtain ⟨e2, e4⟩ := (List.getElem?_eq_some_iff.1 h1)
      have hp := List.pairwise_iff_getElem.1 h.nodup
      rcases Nat.lt_or_gt_of_ne hij with hlt | hlt
      · exact hp i j e1 e2 hlt (by rw [e3, e4])
      · exact hp j i e2 e1 hlt (by rw [e3, e4])
end
/-- is i linked to j -/
def bitM (M : List (List Nat)) (i j : Nat) : Bool := bit (M.getD i []) j
theorem bitM_row {M : List (List Nat)} {i : Nat} {ws : List Nat} (h : M[i]? = some ws) (j : Nat) : bitM M i j = bit ws j := by unfold bitM; rw [List.getD_eq_getElem?_getD, h]; rfl
theorem rthere_ret {p n : Nat} {bs : List Nat} {M : List (List Nat)} {ad : Option Addr} {cap : Nat} (h : RelAt w p n bs M ad cap) : Ret Tryd.prog 68 [ptr p] w (fun v w' => v = .bool true ∧ w' = w) := by
  refine enter Tryd.call68 Tryd.func68 rfl rfl rfl rfl ?_
  (repeat first|refine zA ?_|refine zB ?_|refine zC ?_|refine zD ?_|refine zE ?_|refine zg ?_|refine zo rfl rfl (by first|exact trivial|(simp only[AllP];omega)|(simp(discharger:=omega)only[AllP,cA,cB];omega)|(simp only[AllP,cC,cD,cE,cF,cG];omega)) ?_|refine zn ?_|refine zb ?_|refine ze rfl ?_|refine zr ?_|refine zk ?_|refine zT rfl rfl rfl ?_|refine zU rfl rfl rfl ?_|refine zV rfl rfl rfl ?_|refine zf rfl ?_|refine zt rfl ?_)
  refine o_load rfl h.hdr rfl rfl rfl rfl rfl ?_
  (repeat first|refine zA ?_|refine zB ?_|refine zC ?_|refine zD ?_|refine zE ?_|refine zg ?_|refine zo rfl rfl (by first|exact trivial|(simp only[AllP];omega)|(simp(discharger:=omega)only[AllP,cA,cB];omega)|(simp only[AllP,cC,cD,cE,cF,cG];omega)) ?_|refine zn ?_|refine zb ?_|refine ze rfl ?_|refine zr ?_|refine zk ?_|refine zT rfl rfl rfl ?_|refine zU rfl rfl rfl ?_|refine zV rfl rfl rfl ?_|refine zf rfl ?_|refine zt rfl ?_)
  exact ⟨_, rfl, rfl, rfl⟩
theorem rthere_nil : Ret Tryd.prog 68 [.pointer none] w (fun v w' => v = .bool false ∧ w' = w) := by
  refine enter Tryd.call68 Tryd.func68 rfl rfl rfl rfl ?_
  (repeat first|refine zA ?_|refine zB ?_|refine zC ?_|refine zD ?_|refine zE ?_|refine zg ?_|refine zo rfl rfl (by first|exact trivial|(simp only[AllP];omega)|(simp(discharger:=omega)only[AllP,cA,cB];omega)|(simp only[AllP,cC,cD,cE,cF,cG];omega)) ?_|refine zn ?_|refine zb ?_|refine ze rfl ?_|refine zr ?_|refine zk ?_|refine zT rfl rfl rfl ?_|refine zU rfl rfl rfl ?_|refine zV rfl rfl rfl ?_|refine zf rfl ?_|refine zt rfl ?_)
  exact ⟨_, rfl, rfl, rfl⟩
theorem Size_ret {p n : Nat} {bs : List Nat} {M : List (List Nat)} {ad : Option Addr} {cap : Nat} (h : RelAt w p n bs M ad cap) : Ret Tryd.prog 28 [ptr p] w (fun v w' => v = I n ∧ w' = w) := by
  refine enter Tryd.call28 Tryd.func28 rfl rfl rfl rfl ?_
  (repeat first|refine zA ?_|refine zB ?_|refine zC ?_|refine zD ?_|refine zE ?_|refine zg ?_|refine zo rfl rfl (by first|exact trivial|(simp only[AllP];omega)|(simp(discharger:=omega)only[AllP,cA,cB];omega)|(simp only[AllP,cC,cD,cE,cF,cG];omega)) ?_|refine zn ?_|refine zb ?_|refine ze rfl ?_|refine zr ?_|refine zk ?_|refine zT rfl rfl rfl ?_|refine zU rfl rfl rfl ?_|refine zV rfl rfl rfl ?_|refine zf rfl ?_|refine zt rfl ?_)
  refine o_call (rthere_ret h) rfl rfl rfl ?_
  rintro v w' ⟨rfl, rfl⟩
  (repeat first|refine zA ?_|refine zB ?_|refine zC ?_|refine zD ?_|refine zE ?_|refine zg ?_|refine zo rfl rfl (by first|exact trivial|(simp only[AllP];omega)|(simp(discharger:=omega)only[AllP,cA,cB];omega)|(simp only[AllP,cC,cD,cE,cF,cG];omega)) ?_|refine zn ?_|refine zb ?_|refine ze rfl ?_|refine zr ?_|refine zk ?_|refine zT rfl rfl rfl ?_|refine zU rfl rfl rfl ?_|refine zV rfl rfl rfl ?_|refine zf rfl ?_|refine zt rfl ?_)
  refine o_load rfl h.hdr rfl rfl rfl rfl rfl ?_
  (repeat first|refine zA ?_|refine zB ?_|refine zC ?_|refine zD ?_|refine zE ?_|refine zg ?_|refine zo rfl rfl (by first|exact trivial|(simp only[AllP];omega)|(simp(discharger:=omega)only[AllP,cA,cB];omega)|(simp only[AllP,cC,cD,cE,cF,cG];omega)) ?_|refine zn ?_|refine zb ?_|refine ze rfl ?_|refine zr ?_|refine zk ?_|refine zT rfl rfl rfl ?_|refine zU rfl rfl rfl ?_|refine zV rfl rfl rfl ?_|refine zf rfl ?_|refine zt rfl ?_)
  exact ⟨_, rfl, rfl, rfl⟩
theorem Size_nil : Ret Tryd.prog 28 [.pointer none] w (fun v w' => v = I 0 ∧ w' = w) := by
  refine enter Tryd.call28 Tryd.func28 rfl rfl rfl rfl ?_
  (repeat first|refine zA ?_|refine zB ?_|refine zC ?_|refine zD ?_|refine zE ?_|refine zg ?_|refine zo rfl rfl (by first|exact trivial|(simp only[AllP];omega)|(simp(discharger:=omega)only[AllP,cA,cB];omega)|(simp only[AllP,cC,cD,cE,cF,cG];omega)) ?_|refine zn ?_|refine zb ?_|refine ze rfl ?_|refine zr ?_|refine zk ?_|refine zT rfl rfl rfl ?_|refine zU rfl rfl rfl ?_|refine zV rfl rfl rfl ?_|refine zf rfl ?_|refine zt rfl ?_)
  refine o_call rthere_nil rfl rfl rfl ?_
  rintro v w' ⟨rfl, rfl⟩
  (repeat first|refine zA ?_|refine zB ?_|refine zC ?_|refine zD ?_|refine zE ?_|refine zg ?_|refine zo rfl rfl (by first|exact trivial|(simp only[AllP];omega)|(simp(discharger:=omega)only[AllP,cA,cB];omega)|(simp only[AllP,cC,cD,cE,cF,cG];omega)) ?_|refine zn ?_|refine zb ?_|refine ze rfl ?_|refine zr ?_|refine zk ?_|refine zT rfl rfl rfl ?_|refine zU rfl rfl rfl ?_|refine zV rfl rfl rfl ?_|refine zf rfl ?_|refine zt rfl ?_)
  exact ⟨_, rfl, rfl, rfl⟩
def nodeB (n : Nat) (i : Int) : Bool := decide (0 ≤ i) && decide (i < n)
theorem node_ret {p n : Nat} {bs : List Nat} {M : List (List Nat)} {ad : Option Addr} {cap : Nat} (h : RelAt w p n bs M ad cap) (i : Int) : Ret Tryd.prog 69 [ptr p, I i] w (fun v w' => v = .bool (nodeB n i) ∧ w' = w) := by
  refine enter Tryd.call69 Tryd.func69 rfl rfl rfl rfl ?_
  (repeat first|refine zA ?_|refine zB ?_|refine zC ?_|refine zD ?_|refine zE ?_|refine zg ?_|refine zo rfl rfl (by first|exact trivial|(simp only[AllP];omega)|(simp(discharger:=omega)only[AllP,cA,cB];omega)|(simp only[AllP,cC,cD,cE,cF,cG];omega)) ?_|refine zn ?_|refine zb ?_|refine ze rfl ?_|refine zr ?_|refine zk ?_|refine zT rfl rfl rfl ?_|refine zU rfl rfl rfl ?_|refine zV rfl rfl rfl ?_|refine zf rfl ?_|refine zt rfl ?_)
  refine o_split 2 true rfl rfl rfl (fun hb => ?_) (fun hb => ?_)
  · have hb' : 0 ≤ i := by simpa using hb
    (repeat first|refine zA ?_|refine zB ?_|refine zC ?_|refine zD ?_|refine zE ?_|refine zg ?_|refine zo rfl rfl (by first|exact trivial|(simp only[AllP];omega)|(simp(discharger:=omega)only[AllP,cA,cB];omega)|(simp only[AllP,cC,cD,cE,cF,cG];omega)) ?_|refine zn ?_|refine zb ?_|refine ze rfl ?_|refine zr ?_|refine zk ?_|refine zT rfl rfl rfl ?_|refine zU rfl rfl rfl ?_|refine zV rfl rfl rfl ?_|refine zf rfl ?_|refine zt rfl ?_)
    refine o_load rfl h.hdr rfl rfl rfl rfl rfl ?_
    (repeat first|refine zA ?_|refine zB ?_|refine zC ?_|refine zD ?_|refine zE ?_|refine zg ?_|refine zo rfl rfl (by first|exact trivial|(simp only[AllP];omega)|(simp(discharger:=omega)only[AllP,cA,cB];omega)|(simp only[AllP,cC,cD,cE,cF,cG];omega)) ?_|refine zn ?_|refine zb ?_|refine ze rfl ?_|refine zr ?_|refine zk ?_|refine zT rfl rfl rfl ?_|refine zU rfl rfl rfl ?_|refine zV rfl rfl rfl ?_|refine zf rfl ?_|refine zt rfl ?_)
    exact ⟨_, rfl, by simp [nodeB, hb'], rfl⟩
  · have hb' : ¬ 0 ≤ i := by simpa using hb
    (repeat first|refine zA ?_|refine zB ?_|refine zC ?_|refine zD ?_|refine zE ?_|refine zg ?_|refine zo rfl rfl (by first|exact trivial|(simp only[AllP];omega)|(simp(discharger:=omega)only[AllP,cA,cB];omega)|(simp only[AllP,cC,cD,cE,cF,cG];omega)) ?_|refine zn ?_|refine zb ?_|refine ze rfl ?_|refine zr ?_|refine zk ?_|refine zT rfl rfl rfl ?_|refine zU rfl rfl rfl ?_|refine zV rfl rfl rfl ?_|refine zf rfl ?_|refine zt rfl ?_)
    exact ⟨_, rfl, by simp [nodeB, hb'], rfl⟩

/-! ### NewRelation -/
def zeroM (n : Nat) : List (List Nat) := List.replicate n (List.replicate (wid n) 0)
theorem bitM_zero (n i j : Nat) : bitM (zeroM n) i j = false := by
  unfold bitM zeroM bit
  rw [List.getD_eq_getElem?_getD (l := List.replicate n _), List.getElem?_replicate]
  split
  · simp only [Option.getD_some]
    rw [List.getD_eq_getElem?_getD, List.getElem?_replicate]
    split <;> simp
  · simp
structure NewRel (w : World) (p n : Nat) (w' : World) (bs : List Nat) (M : List (List Nat)) (ad : Option Addr) (cap : Nat) : Prop where
  at_ : RelAt w' p n bs M ad cap
  kp : Kp [] w w'
  new : ∀ b, b ∈ relBlks p ad bs → w.heap.size ≤ b
theorem NewRel.to {w1 w2 : World} {p n : Nat} {bs : List Nat} {M M' : List (List Nat)} {ad : Option Addr} {cap : Nat} (h : NewRel w p n w1 bs M ad cap) (k : RelTo w1 p n bs ad cap w2 M') : NewRel w p n w2 bs M' ad cap :=
  ⟨k.at_, h.kp.since k.kp h.new, h.new⟩
theorem NewRelation_bad {x : Int} (hx : x < 0 ∨ 2048 < x) : Ret Tryd.prog 27 [I x] w (fun v w' => v = .tuple #[.pointer none, I 2] ∧ w' = w) := by
  refine enter Tryd.call27 Tryd.func27 rfl rfl rfl rfl ?_
  (repeat first|refine zA ?_|refine zB ?_|refine zC ?_|refine zD ?_|refine zE ?_|refine zg ?_|refine zo rfl rfl (by first|exact trivial|(simp only[AllP];omega)|(simp(discharger:=omega)only[AllP,cA,cB];omega)|(simp only[AllP,cC,cD,cE,cF,cG];omega)) ?_|refine zn ?_|refine zb ?_|refine ze rfl ?_|refine zr ?_|refine zk ?_|refine zT rfl rfl rfl ?_|refine zU rfl rfl rfl ?_|refine zV rfl rfl rfl ?_|refine zf rfl ?_|refine zt rfl ?_)
  refine o_bool [0] [I x] 10 true (fun w' => w' = w) ?_ ?_
  · refine o_split 2 false rfl rfl rfl (fun hb => ?_) (fun hb => ?_)
    · (repeat first|refine zo rfl rfl (by first|exact trivial|(simp only[AllP];omega)|(simp(discharger:=omega)only[AllP,cA,cB];omega)|(simp only[AllP,cC,cD,cE,cF,cG];omega)) ?_|refine zn ?_|refine zT rfl rfl rfl ?_|refine zU rfl rfl rfl ?_|refine zV rfl rfl rfl ?_)
      exact ⟨rfl, ⟨_, rfl, rfl⟩, rfl⟩
    · have hb' : ¬ x < 0 := by simpa using hb
      (repeat first|refine zo rfl rfl (by first|exact trivial|(simp only[AllP];omega)|(simp(discharger:=omega)only[AllP,cA,cB];omega)|(simp only[AllP,cC,cD,cE,cF,cG];omega)) ?_|refine zn ?_|refine zT rfl rfl rfl ?_|refine zU rfl rfl rfl ?_|refine zV rfl rfl rfl ?_)
      exact ⟨rfl, ⟨_, rfl, by simp; omega⟩, rfl⟩
  rintro e w' rfl
  (repeat first|refine zA ?_|refine zB ?_|refine zC ?_|refine zD ?_|refine zE ?_|refine zg ?_|refine zo rfl rfl (by first|exact trivial|(simp only[AllP];omega)|(simp(discharger:=omega)only[AllP,cA,cB];omega)|(simp only[AllP,cC,cD,cE,cF,cG];omega)) ?_|refine zn ?_|refine zb ?_|refine ze rfl ?_|refine zr ?_|refine zk ?_|refine zT rfl rfl rfl ?_|refine zU rfl rfl rfl ?_|refine zV rfl rfl rfl ?_|refine zf rfl ?_|refine zt rfl ?_)
  exact ⟨_, rfl, rfl, rfl⟩
theorem NewRelation_ret (hT : TabW w) {n : Nat} (hn : n ≤ 2048) : Ret Tryd.prog 27 [I n] w (fun v w' => ∃ p bs ad cap, v = .tuple #[ptr p, I 0] ∧ NewRel w p n w' bs (zeroM n) ad cap) := by
  refine enter Tryd.call27 Tryd.func27 rfl rfl rfl rfl ?_
  (repeat first|refine zA ?_|refine zB ?_|refine zC ?_|refine zD ?_|refine zE ?_|refine zg ?_|refine zo rfl rfl (by first|exact trivial|(simp only[AllP];omega)|(simp(discharger:=omega)only[AllP,cA,cB];omega)|(simp only[AllP,cC,cD,cE,cF,cG];omega)) ?_|refine zn ?_|refine zb ?_|refine ze rfl ?_|refine zr ?_|refine zk ?_|refine zT rfl rfl rfl ?_|refine zU rfl rfl rfl ?_|refine zV rfl rfl rfl ?_|refine zf rfl ?_|refine zt rfl ?_)
  refine r_no rfl (by simp; omega) ?_
  (repeat first|refine zA ?_|refine zB ?_|refine zC ?_|refine zD ?_|refine zE ?_|refine zg ?_|refine zo rfl rfl (by first|exact trivial|(simp only[AllP];omega)|(simp(discharger:=omega)only[AllP,cA,cB];omega)|(simp only[AllP,cC,cD,cE,cF,cG];omega)) ?_|refine zn ?_|refine zb ?_|refine ze rfl ?_|refine zr ?_|refine zk ?_|refine zT rfl rfl rfl ?_|refine zU rfl rfl rfl ?_|refine zV rfl rfl rfl ?_|refine zf rfl ?_|refine zt rfl ?_)
  refine o_build [B true, I n, .slice none 0 0] rfl rfl rfl rfl rfl rfl rfl ?_
  refine o_box rfl rfl rfl ?_
  intro p w1 hp hu1
  (repeat first|refine zA ?_|refine zB ?_|refine zC ?_|refine zD ?_|refine zE ?_|refine zg ?_|refine zo rfl rfl (by first|exact trivial|(simp only[AllP];omega)|(simp(discharger:=omega)only[AllP,cA,cB];omega)|(simp only[AllP,cC,cD,cE,cF,cG];omega)) ?_|refine zn ?_|refine zb ?_|refine ze rfl ?_|refine zr ?_|refine zk ?_|refine zT rfl rfl rfl ?_|refine zU rfl rfl rfl ?_|refine zV rfl rfl rfl ?_|refine zf rfl ?_|refine zt rfl ?_)
  refine r_loop (α := Nat × List Nat × Option Addr × Nat) [0, 4, 14, 15] (fun g => [I n, ptr p, I n, I g.1])
    (fun g w2 => Blk w2 p [B true, I n, .slice g.2.2.1 g.1 g.2.2.2] 100 ∧ OwnS w2 40 1 g.2.2.1 g.1 g.2.2.2 (g.2.1.map (rowV (wid n))) ∧ g.2.1.length = g.1 ∧ g.1 ≤ n ∧ Kp [] w w2 ∧ (∀ b ∈ g.2.1, Blk w2 b (List.replicate (wid n) (U 0)) 41) ∧ g.2.1.Nodup ∧ (∀ b ∈ relBlks p g.2.2.1 g.2.1, w.heap.size ≤ b)) (fun g => n - g.1) (0, [], none, 0) rfl
    ⟨hu1.blk, ownS_nil _ _ _, rfl, by omega, hu1.kp [] (.inr (by omega)), by simp, List.nodup_nil, by simp [relBlks, blkOf]; omega⟩ ?_
  rintro ⟨i, bs, ad, cap⟩ e w2 ⟨hH, hO, hlen, hi, hk, hrows, hnd, hnew⟩
  dsimp only at hH hO hlen hi hk hrows hnd hnew ⊢
  (repeat first|refine zA ?_|refine zB ?_|refine zC ?_|refine zD ?_|refine zE ?_|refine zg ?_|refine zo rfl rfl (by first|exact trivial|(simp only[AllP];omega)|(simp(discharger:=omega)only[AllP,cA,cB];omega)|(simp only[AllP,cC,cD,cE,cF,cG];omega)) ?_|refine zn ?_|refine zb ?_|refine ze rfl ?_|refine zr ?_|refine zk ?_|refine zT rfl rfl rfl ?_|refine zU rfl rfl rfl ?_|refine zV rfl rfl rfl ?_|refine zf rfl ?_|refine zt rfl ?_)
  refine r_if rfl (fun hc => ?_) (fun hc => ?_)
  rotate_left
  · have : i = n := by omega
    subst this
    have hT2 := hT.kp hk (by simp)
    (repeat first|refine zA ?_|refine zB ?_|refine zC ?_|refine zD ?_|refine zE ?_|refine zg ?_|refine zo rfl rfl (by first|exact trivial|(simp only[AllP];omega)|(simp(discharger:=omega)only[AllP,cA,cB];omega)|(simp only[AllP,cC,cD,cE,cF,cG];omega)) ?_|refine zn ?_|refine zb ?_|refine ze rfl ?_|refine zr ?_|refine zk ?_|refine zT rfl rfl rfl ?_|refine zU rfl rfl rfl ?_|refine zV rfl rfl rfl ?_|refine zf rfl ?_|refine zt rfl ?_)
    refine ⟨_, rfl, p, bs, ad, cap, rfl, ⟨hH, hO, hlen, by simp [zeroM], hn, ?_, hnd, fun hb => ?_⟩, hk, hnew⟩
    · intro j b ws h1 h2
      have hj : j < i := by rw [← hlen]; exact (List.getElem?_eq_some_iff.1 h1).1
      unfold zeroM at h2
      rw [List.getElem?_replicate, if_pos hj] at h2
      cases h2
      refine ⟨?_, by simp, WOk.zeros _⟩
      rw [List.map_replicate]; exact hrows b (List.mem_of_getElem? h1)
    · have := hnew _ hb; have := hT.lt; omega
  · (repeat first|refine zA ?_|refine zB ?_|refine zC ?_|refine zD ?_|refine zE ?_|refine zg ?_|refine zo rfl rfl (by first|exact trivial|(simp only[AllP];omega)|(simp(discharger:=omega)only[AllP,cA,cB];omega)|(simp only[AllP,cC,cD,cE,cF,cG];omega)) ?_|refine zn ?_|refine zb ?_|refine ze rfl ?_|refine zr ?_|refine zk ?_|refine zT rfl rfl rfl ?_|refine zU rfl rfl rfl ?_|refine zV rfl rfl rfl ?_|refine zf rfl ?_|refine zt rfl ?_)
    refine r_mix (fun w' => Blk w' p [B true, I n, .slice ad i cap] 100) [(0, false), (1, false), (2, false), (3, false), (4, false), (5, false), (6, false), (7, false), (8, true), (9, true), (10, true), (11, false), (12, false), (13, true)] follows_mixed (by kernel_rfl) (by kernel_rfl) (by kernel_rfl) ((Sm.drew w2).blk hH) ?_
    have hO := hO.sm (Sm.drew w2)
    have hk := hk.trans ((Sm.drew w2).kp [])
    have hrows : ∀ b ∈ bs, Blk { w2 with drawn := w2.drawn + 1 } b (List.replicate (wid n) (U 0)) 41 := fun b hb => (Sm.drew w2).blk (hrows b hb)
    have hH := (Sm.drew w2).blk hH
    generalize ({ w2 with drawn := w2.drawn + 1 } : World) = w2 at hO hk hrows hH ⊢
    (repeat first|refine xo rfl rfl (by first|exact trivial|(simp only[AllP];omega)|(simp(discharger:=omega)only[AllP,cA,cB];omega)|(simp only[AllP,cC,cD,cE,cF,cG];omega)) ?_|refine xn ?_|refine x_know rfl _ _ (some true) rfl rfl rfl ?_|refine x_know rfl _ _ (some false) rfl rfl rfl ?_|refine x_know rfl _ _ none rfl rfl rfl ?_)
    refine x_load rfl rfl (fun w' h' => h'.cell rfl) rfl rfl rfl rfl ?_
    (repeat first|refine xo rfl rfl (by first|exact trivial|(simp only[AllP];omega)|(simp(discharger:=omega)only[AllP,cA,cB];omega)|(simp only[AllP,cC,cD,cE,cF,cG];omega)) ?_|refine xn ?_|refine x_know rfl _ _ (some true) rfl rfl rfl ?_|refine x_know rfl _ _ (some false) rfl rfl rfl ?_|refine x_know rfl _ _ none rfl rfl rfl ?_)
    have hdiv : Int.tdiv ((n : Int) + 63) 64 = ((wid n : Nat) : Int) := by
      have := tdiv64 (n + 63); unfold wid; rw [← this]; rfl
    have hwid : wid n ≤ 32 := by unfold wid; omega
    refine x_act rfl ?_
    refine o_make (len := (wid n : Int)) (cap := (wid n : Int)) (kl := .i64) (kc := .i64) (congrArg (Value.int .i64) hdiv) (congrArg (Value.int .i64) hdiv) rfl rfl rfl (by omega) (by omega) (by omega) (by omega) rfl rfl ?_
    intro b3 w3 hb3 hu3
    rw [Int.toNat_natCast] at hu3 ⊢
    have k3 : Kp [] w2 w3 := hu3.kp [] (.inr (by omega))
    have hH3 := k3.blk (by simp) hH
    refine o_nil ⟨.inr hH3, ?_⟩
    refine x_act rfl ?_
    refine o_buildSlice [rowV (wid n) b3] rfl (by simp [Value.oneCell']) rfl (by decide) (by decide) rfl rfl rfl rfl rfl ?_
    intro b4 w4 hb4 hu4
    have k4 : Kp [] w3 w4 := hu4.kp [] (.inr (by omega))
    have hH4 := k4.blk (by simp) hH3
    refine o_nil ⟨.inr hH4, ?_⟩
    refine x_act rfl ?_
    refine o_append1 rfl rfl ((hO.kp k3 (by simp)).kp k4 (by simp)) hu4.blk rfl rfl rfl rfl (by simp only [maxLen]; omega) (by omega) rfl rfl ?_
    intro ad5 cap5 w5 ho5 k5 hnew5
    have s3 := hu3.size
    have s4 := hu4.size
    have sk := hk.size
    have pad : p ∉ blkOf ad := fun hb => by
      obtain ⟨_, _, _, _, junk, h5, _⟩ : ∃ a b c d junk, Blk w2 p junk 40 ∧ True := by
        have ho := hO.2
        cases ad with
        | none => simp [blkOf] at hb
        | some ad =>
          simp [blkOf] at hb; subst hb
          obtain ⟨_, _, _, _, junk, h5, _⟩ := ho
          exact ⟨0, 0, 0, 0, _, h5, trivial⟩
      exact relRow_ne hH h5 (by decide) rfl
    have hH5 := k5.blk pad hH4
    refine o_nil ⟨.inr hH5, ?_⟩
    (repeat first|refine xo rfl rfl (by first|exact trivial|(simp only[AllP];omega)|(simp(discharger:=omega)only[AllP,cA,cB];omega)|(simp only[AllP,cC,cD,cE,cF,cG];omega)) ?_|refine xn ?_|refine x_know rfl _ _ (some true) rfl rfl rfl ?_|refine x_know rfl _ _ (some false) rfl rfl rfl ?_|refine x_know rfl _ _ none rfl rfl rfl ?_)
    refine x_act rfl ?_
    refine o_store rfl hH5 (by simp) rfl rfl rfl rfl rfl rfl ?_
    intro w6 hu6
    refine o_nil ⟨.inl (by kernel_rfl), ?_⟩
    (repeat first|refine xo rfl rfl (by first|exact trivial|(simp only[AllP];omega)|(simp(discharger:=omega)only[AllP,cA,cB];omega)|(simp only[AllP,cC,cD,cE,cF,cG];omega)) ?_|refine xn ?_|refine x_know rfl _ _ (some true) rfl rfl rfl ?_|refine x_know rfl _ _ (some false) rfl rfl rfl ?_|refine x_know rfl _ _ none rfl rfl rfl ?_)
    (repeat first|refine zA ?_|refine zB ?_|refine zC ?_|refine zD ?_|refine zE ?_|refine zg ?_|refine zo rfl rfl (by first|exact trivial|(simp only[AllP];omega)|(simp(discharger:=omega)only[AllP,cA,cB];omega)|(simp only[AllP,cC,cD,cE,cF,cG];omega)) ?_|refine zn ?_|refine zb ?_|refine ze rfl ?_|refine zr ?_|refine zk ?_|refine zT rfl rfl rfl ?_|refine zU rfl rfl rfl ?_|refine zV rfl rfl rfl ?_|refine zf rfl ?_|refine zt rfl ?_)
    have p5 : p ∉ blkOf ad5 := fun hb => by
      rcases hnew5 p hb with h1 | h1
      · exact pad h1
      · have := hH.lt; omega
    have k36 : Kp (p :: blkOf ad) w2 w6 := (((k3.trans k4).mono (S' := p :: blkOf ad) (by simp)).after k5 (fun b hb => .inl (by simp [hb]))).after (hu6.kp [p] (.inl (by simp))) (fun b hb => .inl (by simp at hb; simp [hb]))
    have oldrow : ∀ b ∈ bs, b ∉ p :: blkOf ad := fun b hb hb2 => by
      have hB := hrows b hb
      rcases List.mem_cons.1 hb2 with rfl | hb2
      · exact relRow_ne hH hB (by decide) rfl
      · have ho := hO.2
        cases ad with
        | none => simp [blkOf] at hb2
        | some ad =>
          simp [blkOf] at hb2; subst hb2
          obtain ⟨_, _, _, _, junk, h5, _⟩ := ho
          exact relRow_ne h5 hB (by decide) rfl
    refine ⟨(i + 1, bs ++ [b3], ad5, cap5), rfl, ⟨hu6.blk, ?_, by simp [hlen], by dsimp only; omega, hk.since k36 (fun b hb => hnew b (by rcases List.mem_cons.1 hb with rfl | hb; simp [relBlks]; simp [relBlks, hb])), ?_, ?_, ?_⟩, by dsimp only; omega⟩
    · dsimp only; rw [List.map_append]; exact ho5.upd hu6 p5
    · intro b hb
      rcases List.mem_append.1 hb with hb | hb
      · exact k36.blk (oldrow b hb) (hrows b hb)
      · simp at hb; subst hb
        have h1 := hu3.blk
        have h2 := k4.blk (by simp) h1
        have hb5 : b ∉ blkOf ad := fun hm => by have := hO.lt b hm; omega
        have h3 := k5.blk hb5 h2
        exact hu6.kept (fun e => by subst e; have := hH.lt; omega) h3
    · dsimp only
      rw [List.nodup_append]
      refine ⟨hnd, by simp, fun a ha b hb => ?_⟩
      simp at hb; subst hb
      have := (hrows a ha).lt; omega
    · dsimp only
      intro b hb
      unfold relBlks at hb
      rcases List.mem_cons.1 hb with rfl | hb
      · exact hnew _ (by simp [relBlks])
      · rcases List.mem_append.1 hb with hb | hb
        · rcases hnew5 b hb with h1 | h1
          · exact hnew b (by simp [relBlks, h1])
          · omega
        · rcases List.mem_append.1 hb with hb | hb
          · exact hnew b (by simp [relBlks, hb])
          · simp at hb; omega
end Go.Vc
