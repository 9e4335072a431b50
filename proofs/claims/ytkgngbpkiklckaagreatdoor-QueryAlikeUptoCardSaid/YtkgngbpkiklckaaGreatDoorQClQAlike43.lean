/- Query: truth, and the plain law of QueryAlike. -/
import Derived.Test.YtkgngbpkiklckaaGreatDoorQClQAlike42
import Derived.Test.YtkgngbpkiklckaaGreatDoorQClQAlike41
namespace Go.Vc
open Go Go.Proofs
set_option maxRecDepth 20000
variable {w : World}
/-- what `truth` makes of an answer -/
def verdict (r : Rep × Int) : Int := if r.2 = 306 then 2 else if r.2 = 305 then 2 else if r.2 ≠ 0 then -1 else if r.1.sort ≠ 2 then -1 else if r.1.truth = true then 1 else 0
noncomputable def truthM (l : List QN) (s : Shp) (E : List Ev) : Int := verdict (askM l s E 2000000)
theorem truth_val {T : QT} {s : Shp} {E : List Ev} (h : WellQ T) (ha : answerO T.op.toNat = 2) (ho : orderM s E = 0) : truthM T.rows s E = 2 ∨ truthM T.rows s E = trI (decide ((evq (qwO E (rnds s E E.length)) T fun _ => 0).1 = 1)) := by
  unfold truthM askM
  rcases look_tree h.1 h.2.1 h.2.2 with hl | hl
  · rw [hl]; exact .inl rfl
  · rw [hl]
    dsimp only
    rw [if_pos ho, ha]
    generalize evq (qwO E (rnds s E E.length)) T (fun _ => 0) = a
    unfold fuelM
    have c1 : ¬ ((2000000 : Int) < 0 ∨ (67108864 : Int) < 2000000) := by decide
    rw [if_neg c1]
    by_cases c2 : (2000000 : Int) < a.2
    · rw [if_pos c2]; exact .inl rfl
    · rw [if_neg c2, if_pos rfl]
      right
      unfold verdict
      dsimp only
      rw [if_neg (by decide), if_neg (by decide), if_neg (by simp), if_neg (by simp)]
      cases decide (a.1 = 1) <;> rfl
set_option maxHeartbeats 6400000 in
theorem truthX_ret {x : AG} {l : List QN} {ad : Option Addr} {cap : Nat} (hA : AscW w) (hR : Rows w ad cap l) (hx : x.Ok w) : Ret Tryz.prog 20 [.agg ⟨[.slice ad l.length cap]⟩, .agg ⟨x.C⟩] w (fun v w' => v = I (truthM l x.s x.E) ∧ Kp [] w w') := by
  refine enter Tryz.call20 Tryz.func20 rfl rfl rfl rfl ?_
  (repeat first|refine zA ?_|refine zg ?_)
  refine o_box rfl rfl rfl ?_
  intro b2 w1 e1 hu1
  refine o_box rfl rfl rfl ?_
  intro b3 w2 e2 hu2
  have k2 : Kp [] w1 w2 := hu2.kp [] (.inr (by omega))
  have g2 : Blk w2 b2 [.slice ad l.length cap] 24 := k2.blk (by simp) hu1.blk
  have g3 : Blk w2 b3 x.C 30 := hu2.blk
  have k0 : Kp [] w w2 := (hu1.kp [] (.inr (by omega))).trans k2
  clear hu1 hu2
  (repeat first|refine zA ?_|refine zg ?_|refine zo rfl rfl trivial ?_|refine zn ?_)
  refine o_loadA (vs := [.slice ad l.length cap]) rfl (fun j v hv => by rw [Nat.zero_add]; exact g2.cell hv) rfl rfl rfl rfl rfl rfl ?_
  (repeat refine zo rfl rfl trivial ?_)
  refine o_loadA (vs := [I x.s.th, I x.s.va, I x.s.vo, I x.s.lo, .slice x.pad x.s.pa.length x.pcap]) rfl (g3.sub 2 _ rfl) rfl rfl rfl rfl rfl rfl ?_
  (repeat refine zo rfl rfl trivial ?_)
  refine o_load rfl g3 (v := .slice x.ead x.E.length x.ecap) rfl rfl rfl rfl rfl ?_
  have hx2 := hx.kp k0
  refine o_call (Ask_ret (s := x.s) (pcap := x.pcap) (ecap := x.ecap) (fuel := 2000000) (hA.kp k0 (by simp)) (hR.kp k0 (by simp)) hx2.pa hx2.pal hx2.ev hx2.evl) rfl rfl rfl ?_
  unfold truthM
  generalize askM l x.s x.E 2000000 = r
  obtain ⟨r, er⟩ := r
  rintro v w3 ⟨rfl, k3⟩
  have k0 := k0.trans k3
  dsimp only
  (repeat refine zo rfl rfl trivial ?_)
  refine o_alloc rfl rfl rfl rfl ?_
  intro b5 w4 e4 hu4
  refine o_storeA (b := b5) (cs := repC r) rfl hu4.blk (Nat.le_refl _) rfl (by simp [Value.oneCell', repC]) rfl rfl rfl rfl ?_
  intro w5 hu5
  have k35 : Kp [] w3 w5 := (hu4.kp [] (.inr (by omega))).since (hu5.kp [b5] (.inl (by simp))) (by simp; omega)
  have g5 : Blk w5 b5 (repC r) 45 := hu5.blk
  have k0 := k0.trans k35
  clear hu4 hu5
  unfold verdict
  dsimp only
  (repeat first|refine zA ?_|refine zC ?_|refine zg ?_|refine zo rfl rfl trivial ?_|refine zn ?_|refine zb ?_)
  refine o_call (num30_ret _) rfl rfl rfl ?_
  rintro v w6 ⟨rfl, rfl⟩
  by_cases h6 : er = 306
  · rw [if_pos h6]
    refine o_pureB true rfl (decide_eq_true h6) rfl rfl ?_
    (repeat first|refine zA ?_|refine zg ?_|refine zo rfl rfl trivial ?_|refine zn ?_|refine zr ?_|refine zT rfl rfl rfl ?_|refine zt rfl ?_)
    exact ⟨_, rfl, rfl, k0⟩
  rw [if_neg h6]
  refine o_pureB false rfl (decide_eq_false h6) rfl rfl ?_
  (repeat first|refine zo rfl rfl trivial ?_|refine zU rfl rfl rfl ?_)
  refine o_call (num30_ret _) rfl rfl rfl ?_
  rintro v w7 ⟨rfl, rfl⟩
  by_cases h5 : er = 305
  · rw [if_pos h5]
    refine o_pureB true rfl (decide_eq_true h5) rfl rfl ?_
    (repeat first|refine zA ?_|refine zg ?_|refine zo rfl rfl trivial ?_|refine zn ?_|refine zr ?_|refine zt rfl ?_)
    exact ⟨_, rfl, rfl, k0⟩
  rw [if_neg h5]
  refine o_pureB false rfl (decide_eq_false h5) rfl rfl ?_
  (repeat first|refine zA ?_|refine zg ?_|refine zo rfl rfl trivial ?_|refine zn ?_|refine zf rfl ?_)
  refine o_call (num30_ret _) rfl rfl rfl ?_
  rintro v w8 ⟨rfl, rfl⟩
  by_cases h0 : er ≠ 0
  · rw [if_pos h0]
    refine o_pureB true rfl (by simp [h0]) rfl rfl ?_
    (repeat first|refine zA ?_|refine zg ?_|refine zo rfl rfl trivial ?_|refine zn ?_|refine zr ?_|refine zT rfl rfl rfl ?_|refine zt rfl ?_)
    exact ⟨_, rfl, rfl, k0⟩
  rw [if_neg h0]
  refine o_pureB false rfl (by simp only [ne_eq, Decidable.not_not] at h0; simp [h0]) rfl rfl ?_
  (repeat first|refine zo rfl rfl trivial ?_|refine zU rfl rfl rfl ?_)
  refine o_load rfl g5 (v := I r.sort) rfl rfl rfl rfl rfl ?_
  by_cases h2 : r.sort ≠ 2
  · rw [if_pos h2]
    refine o_pureB true rfl (by simp [h2]) rfl rfl ?_
    (repeat first|refine zA ?_|refine zg ?_|refine zo rfl rfl trivial ?_|refine zn ?_|refine zr ?_|refine zt rfl ?_)
    exact ⟨_, rfl, rfl, k0⟩
  rw [if_neg h2]
  refine o_pureB false rfl (by simp only [ne_eq, Decidable.not_not] at h2; simp [h2]) rfl rfl ?_
  (repeat first|refine zA ?_|refine zg ?_|refine zo rfl rfl trivial ?_|refine zn ?_|refine zf rfl ?_)
  refine o_load rfl g5 (v := .bool r.truth) rfl rfl rfl rfl rfl ?_
  cases r.truth with
  | true =>
    (repeat first|refine zA ?_|refine zg ?_|refine zo rfl rfl trivial ?_|refine zn ?_|refine zr ?_|refine zt rfl ?_)
    exact ⟨_, rfl, rfl, k0⟩
  | false =>
    (repeat first|refine zA ?_|refine zg ?_|refine zo rfl rfl trivial ?_|refine zn ?_|refine zr ?_|refine zk ?_|refine zf rfl ?_)
    exact ⟨_, rfl, rfl, k0⟩
/-! ### The law -/
/-- the eight questions, in order -/
def eightQ (name : List UInt8) (q : QT) : List QT := [countQ name q, leastQ name q, mostQ name q, refQ name q, everyQ name q, totalQ name q, bothQ name q, neitherQ name q]
theorem alike {name : List UInt8} {q : QT} {s : Shp} {E : List Ev} (h : FreeOk name q) (ho : orderM s E = 0) :
    ∃ one four : Bool, one = decide ((evq (qwO E (rnds s E E.length)) (freeQ name q) fun _ => 0).1 = 1) ∧
      ∀ k T, (eightQ name q)[k]? = some T → truthM T.rows s E = 2 ∨ truthM T.rows s E = trI ([one, one, one, one, four, four, !(one && four), !(one && four)].getD k false) := by
  have hq : ∀ τ, (evq (qwO E (rnds s E E.length)) q τ).1 = 0 ∨ (evq (qwO E (rnds s E E.length)) q τ).1 = 1 := fun τ => evq_bool _ q τ h.good h.sense h.ans
  have hf : ∀ τ, (evq (qwO E (rnds s E E.length)) (freeQ name q) τ).1 = 0 ∨ (evq (qwO E (rnds s E E.length)) (freeQ name q) τ).1 = 1 := fun τ => evq_bool _ _ τ (well_free h).1 (well_free h).2.2 rfl
  have he : ∀ τ, (evq (qwO E (rnds s E E.length)) (everyQ name q) τ).1 = 0 ∨ (evq (qwO E (rnds s E E.length)) (everyQ name q) τ).1 = 1 := fun τ => evq_bool _ _ τ (well_every h).1 (well_every h).2.2 rfl
  refine ⟨anyB (qwO E (rnds s E E.length)) name q (fun _ => 0), allB (qwO E (rnds s E E.length)) name q (fun _ => 0), val_free.symm, fun k T hT => ?_⟩
  match k, hT with
  | 0, hT => cases hT; have := truth_val (well_count h) rfl ho; rw [val_count] at this; exact this
  | 1, hT => cases hT; have := truth_val (well_least h) rfl ho; rw [val_least] at this; exact this
  | 2, hT => cases hT; have := truth_val (well_most h) rfl ho; rw [val_most] at this; exact this
  | 3, hT => cases hT; have := truth_val (well_ref h) rfl ho; rw [val_ref hq] at this; exact this
  | 4, hT => cases hT; have := truth_val (well_every h) rfl ho; rw [val_every] at this; exact this
  | 5, hT => cases hT; have := truth_val (well_total h) rfl ho; rw [val_total] at this; exact this
  | 6, hT => cases hT; have := truth_val (well_both h) rfl ho; rw [val_both hf] at this; exact this
  | 7, hT => cases hT; have := truth_val (well_neither h) rfl ho; rw [val_neither (hf _) (he _)] at this; exact this
  | n + 8, hT => simp [eightQ] at hT
end Go.Vc
/- Query: the document's tables, words and names. -/
namespace Go.Vc
open Go Go.Proofs
set_option maxRecDepth 20000
variable {w : World}
/-- a row of the document's table of operations -/
structure RT where
  word : List UInt8
  kids : Int
  of_ : Int
  ans : Int
  binds : Bool
def rtC (r : RT) : List Value := [S r.word, I r.kids, I r.of_, I r.ans, .bool r.binds]
def rowT : List RT := [⟨[], 0, 0, 1, false⟩, ⟨[], 0, 0, 1, false⟩, ⟨[101, 118, 101, 110, 116, 115], 0, 0, 1, false⟩, ⟨[45], 1, 1, 1, false⟩, ⟨[43], 2, 1, 1, false⟩, ⟨[45], 2, 1, 1, false⟩, ⟨[42], 2, 1, 1, false⟩, ⟨[116, 104, 114, 101, 97, 100], 1, 1, 1, false⟩, ⟨[107, 105, 110, 100], 1, 1, 1, false⟩, ⟨[111, 98, 106], 1, 1, 1, false⟩, ⟨[60], 2, 1, 2, false⟩, ⟨[60, 61], 2, 1, 2, false⟩, ⟨[61], 2, 1, 2, false⟩, ⟨[33, 61], 2, 1, 2, false⟩, ⟨[62, 61], 2, 1, 2, false⟩, ⟨[62], 2, 1, 2, false⟩, ⟨[110, 111, 116], 1, 2, 2, false⟩, ⟨[97, 110, 100], 2, 2, 2, false⟩, ⟨[111, 114], 2, 2, 2, false⟩, ⟨[98, 101, 102, 111, 114, 101], 2, 1, 2, false⟩, ⟨[114, 97, 99, 101], 2, 1, 2, false⟩, ⟨[97, 110, 121], 1, 2, 2, true⟩, ⟨[97, 108, 108], 1, 2, 2, true⟩, ⟨[99, 111, 117, 110, 116], 1, 2, 1, true⟩, ⟨[108, 101, 97, 115, 116], 1, 2, 1, true⟩, ⟨[109, 111, 115, 116], 1, 2, 1, true⟩]
set_option maxHeartbeats 6400000 in
theorem rows30_ret : Ret Tryz.prog 96 [] w (fun v w' => ∃ b, v = .slice (some ⟨b, 0, none⟩) 26 26 ∧ Blk w' b (rowT.flatMap rtC) 154 ∧ Kp [] w w') := by
  refine enter Tryz.call96 Tryz.func96 rfl rfl rfl rfl ?_
  (repeat first|refine zA ?_|refine zg ?_|refine zo rfl rfl trivial ?_|refine zn ?_)
  refine o_build (rtC ⟨[], 0, 0, 1, false⟩) rfl rfl rfl rfl rfl rfl rfl ?_
  refine o_build (rtC ⟨[], 0, 0, 1, false⟩) rfl rfl rfl rfl rfl rfl rfl ?_
  refine o_build (rtC ⟨[101, 118, 101, 110, 116, 115], 0, 0, 1, false⟩) rfl rfl rfl rfl rfl rfl rfl ?_
  refine o_build (rtC ⟨[45], 1, 1, 1, false⟩) rfl rfl rfl rfl rfl rfl rfl ?_
  refine o_build (rtC ⟨[43], 2, 1, 1, false⟩) rfl rfl rfl rfl rfl rfl rfl ?_
  refine o_build (rtC ⟨[45], 2, 1, 1, false⟩) rfl rfl rfl rfl rfl rfl rfl ?_
  refine o_build (rtC ⟨[42], 2, 1, 1, false⟩) rfl rfl rfl rfl rfl rfl rfl ?_
  refine o_build (rtC ⟨[116, 104, 114, 101, 97, 100], 1, 1, 1, false⟩) rfl rfl rfl rfl rfl rfl rfl ?_
  refine o_build (rtC ⟨[107, 105, 110, 100], 1, 1, 1, false⟩) rfl rfl rfl rfl rfl rfl rfl ?_
  refine o_build (rtC ⟨[111, 98, 106], 1, 1, 1, false⟩) rfl rfl rfl rfl rfl rfl rfl ?_
  refine o_build (rtC ⟨[60], 2, 1, 2, false⟩) rfl rfl rfl rfl rfl rfl rfl ?_
  refine o_build (rtC ⟨[60, 61], 2, 1, 2, false⟩) rfl rfl rfl rfl rfl rfl rfl ?_
  refine o_build (rtC ⟨[61], 2, 1, 2, false⟩) rfl rfl rfl rfl rfl rfl rfl ?_
  refine o_build (rtC ⟨[33, 61], 2, 1, 2, false⟩) rfl rfl rfl rfl rfl rfl rfl ?_
  refine o_build (rtC ⟨[62, 61], 2, 1, 2, false⟩) rfl rfl rfl rfl rfl rfl rfl ?_
  refine o_build (rtC ⟨[62], 2, 1, 2, false⟩) rfl rfl rfl rfl rfl rfl rfl ?_
  refine o_build (rtC ⟨[110, 111, 116], 1, 2, 2, false⟩) rfl rfl rfl rfl rfl rfl rfl ?_
  refine o_build (rtC ⟨[97, 110, 100], 2, 2, 2, false⟩) rfl rfl rfl rfl rfl rfl rfl ?_
  refine o_build (rtC ⟨[111, 114], 2, 2, 2, false⟩) rfl rfl rfl rfl rfl rfl rfl ?_
  refine o_build (rtC ⟨[98, 101, 102, 111, 114, 101], 2, 1, 2, false⟩) rfl rfl rfl rfl rfl rfl rfl ?_
  refine o_build (rtC ⟨[114, 97, 99, 101], 2, 1, 2, false⟩) rfl rfl rfl rfl rfl rfl rfl ?_
  refine o_build (rtC ⟨[97, 110, 121], 1, 2, 2, true⟩) rfl rfl rfl rfl rfl rfl rfl ?_
  refine o_build (rtC ⟨[97, 108, 108], 1, 2, 2, true⟩) rfl rfl rfl rfl rfl rfl rfl ?_
  refine o_build (rtC ⟨[99, 111, 117, 110, 116], 1, 2, 1, true⟩) rfl rfl rfl rfl rfl rfl rfl ?_
  refine o_build (rtC ⟨[108, 101, 97, 115, 116], 1, 2, 1, true⟩) rfl rfl rfl rfl rfl rfl rfl ?_
  refine o_build (rtC ⟨[109, 111, 115, 116], 1, 2, 1, true⟩) rfl rfl rfl rfl rfl rfl rfl ?_
  refine o_buildSliceN (rowT.flatMap rtC) rfl rfl rfl (by kernel_rfl) rfl rfl rfl rfl ?_
  intro b w1 hb hu1
  (repeat first|refine zo rfl rfl trivial ?_|refine zn ?_|refine zr ?_)
  exact ⟨_, rfl, b, rfl, hu1.blk, hu1.kp [] (.inr (by omega))⟩
theorem kinds30_ret : Ret Tryz.prog 97 [] w (fun v w' => ∃ b, v = .slice (some ⟨b, 0, none⟩) 11 11 ∧ Blk w' b (kindWords.map S) 9 ∧ Kp [] w w') := by
  refine enter Tryz.call97 Tryz.func97 rfl rfl rfl rfl ?_
  (repeat first|refine zA ?_|refine zg ?_|refine zo rfl rfl trivial ?_|refine zn ?_)
  refine o_buildSliceN (kindWords.map S) rfl rfl rfl (by kernel_rfl) rfl rfl rfl rfl ?_
  intro b w1 hb hu1
  (repeat first|refine zo rfl rfl trivial ?_|refine zn ?_|refine zr ?_)
  exact ⟨_, rfl, b, rfl, hu1.blk, hu1.kp [] (.inr (by omega))⟩
/-- is a text one of the words? -/
def rowIs (s : List UInt8) (r : RT) : Bool := decide (r.word = s) && decide ((97 : Int) ≤ (s.getD 0 0).toNat)
def wordR (s : List UInt8) : Bool := (rowT.drop 2).any (rowIs s) || kindWords.any fun k => decide (k = s)
set_option maxHeartbeats 6400000 in
theorem Word30_ret (s : List UInt8) (hs : 1 ≤ s.length) : Ret Tryz.prog 48 [S s] w (fun v w' => v = .bool (wordR s) ∧ Kp [] w w') := by
  have hlen : rowT.length = 26 := rfl
  refine enter Tryz.call48 Tryz.func48 rfl rfl rfl rfl ?_
  (repeat first|refine zA ?_|refine zg ?_|refine zo rfl rfl trivial ?_|refine zn ?_)
  refine o_call rows30_ret rfl rfl rfl ?_
  rintro v w1 ⟨b, rfl, hB, k1⟩
  (repeat first|refine zA ?_|refine zB ?_|refine zg ?_|refine zo rfl rfl trivial ?_|refine zn ?_|refine zb ?_)
  refine r_loop (α := Nat) [0, 3, 4] (fun i => [S s, .slice (some ⟨b, 0, none⟩) 26 26, I i]) (fun i W => 2 ≤ i ∧ i ≤ 26 ∧ W = w1 ∧ ((rowT.take i).drop 2).any (rowIs s) = false) (fun i => 26 - i) 2 rfl ⟨by omega, by omega, rfl, rfl⟩ ?_
  rintro i e W ⟨h2, hi, rfl, hn⟩
  (repeat first|refine zA ?_|refine zB ?_|refine zg ?_|refine zo rfl rfl trivial ?_|refine zn ?_)
  refine r_if rfl (fun hc => ?_) (fun hc => ?_)
  · have hi2 : i < rowT.length := by omega
    obtain ⟨r, hr⟩ : ∃ r, rowT[i]? = some r := ⟨_, List.getElem?_eq_getElem hi2⟩
    have ht1 : (rowT.take (i + 1)).drop 2 = (rowT.take i).drop 2 ++ [r] := by
      rw [List.take_add_one, hr, List.drop_append_of_le_length (by rw [List.length_take]; omega)]; rfl
    have hword : (rowT.flatMap rtC)[i * 5 + 0]? = some (S r.word) := flC_get (f := rtC) (m := 5) (j := 0) (fun _ => rfl) hr rfl
    have hmem : r ∈ rowT.drop 2 := List.mem_of_getElem? (i := i - 2) (by rw [List.getElem?_drop, show 2 + (i - 2) = i by omega]; exact hr)
    (repeat first|refine zA ?_|refine zC ?_|refine zg ?_|refine zo rfl rfl (by first|exact trivial|(simp only[AllP];omega)) ?_|refine zb ?_|refine zk ?_)
    refine o_load rfl hB (v := S r.word) (by rw [toNat_nat, Nat.zero_add]; exact hword) rfl rfl rfl rfl ?_
    refine o_pure1 rfl rfl rfl ?_
    by_cases hw : r.word = s
    · refine o_pureB true rfl (decide_eq_true hw) rfl rfl ?_
      (repeat first|refine zo rfl rfl (by first|exact trivial|(simp only[AllP];omega)) ?_|refine zn ?_|refine zT rfl rfl rfl ?_)
      refine r_if rfl (fun hge => ?_) (fun hge => ?_)
      · (repeat first|refine zA ?_|refine zg ?_|refine zo rfl rfl trivial ?_|refine zn ?_|refine zr ?_)
        refine ⟨_, rfl, ?_, k1⟩
        have : (rowT.drop 2).any (rowIs s) = true := List.any_eq_true.2 ⟨r, hmem, by unfold rowIs; rw [decide_eq_true hw, Bool.true_and, decide_eq_true]; exact hge⟩
        unfold wordR; rw [this]; rfl
      · have hge : ¬ ((97 : Int) ≤ (s.getD 0 0).toNat) := hge
        (repeat first|refine zg ?_|refine zo rfl rfl (by first|exact trivial|(simp only[AllP];omega)) ?_|refine zn ?_|refine zk ?_)
        exact ⟨i + 1, rfl, ⟨by omega, by omega, rfl, by rw [ht1, List.any_append, hn]; simp only [List.any_cons, List.any_nil, Bool.or_false, Bool.false_or]; unfold rowIs; rw [decide_eq_false hge, Bool.and_false]⟩, by omega⟩
    · refine o_pureB false rfl (decide_eq_false hw) rfl rfl ?_
      (repeat first|refine zg ?_|refine zo rfl rfl (by first|exact trivial|(simp only[AllP];omega)) ?_|refine zn ?_|refine zk ?_|refine zU rfl rfl rfl ?_|refine zf rfl ?_)
      exact ⟨i + 1, rfl, ⟨by omega, by omega, rfl, by rw [ht1, List.any_append, hn]; simp only [List.any_cons, List.any_nil, Bool.or_false, Bool.false_or]; unfold rowIs; rw [decide_eq_false hw, Bool.false_and]⟩, by omega⟩
  · obtain rfl : i = 26 := by omega
    have hrows : (rowT.drop 2).any (rowIs s) = false := hn
    (repeat first|refine zA ?_|refine zg ?_|refine ze rfl ?_)
    refine o_call kinds30_ret rfl rfl rfl ?_
    rintro v w2 ⟨b2, rfl, hB2, k2⟩
    have hkl : kindWords.length = 11 := rfl
    (repeat first|refine zA ?_|refine zB ?_|refine zg ?_|refine zo rfl rfl trivial ?_|refine zn ?_|refine zb ?_)
    refine r_loop (α := Nat) [0, 5, 6] (fun i => [S s, .slice (some ⟨b2, 0, none⟩) 11 11, I i]) (fun i W => i ≤ 11 ∧ W = w2 ∧ (kindWords.take i).any (fun k => decide (k = s)) = false) (fun i => 11 - i) 0 rfl ⟨by omega, rfl, rfl⟩ ?_
    rintro i e W ⟨hi, rfl, hn⟩
    (repeat first|refine zA ?_|refine zB ?_|refine zg ?_|refine zo rfl rfl trivial ?_|refine zn ?_)
    refine r_if rfl (fun hc => ?_) (fun hc => ?_)
    · obtain ⟨k, hk⟩ : ∃ k, kindWords[i]? = some k := ⟨_, List.getElem?_eq_getElem (by omega)⟩
      have ht1 : kindWords.take (i + 1) = kindWords.take i ++ [k] := by rw [List.take_add_one, hk]; rfl
      (repeat first|refine zA ?_|refine zC ?_|refine zg ?_|refine zo rfl rfl (by first|exact trivial|(simp only[AllP];omega)) ?_|refine zb ?_|refine zk ?_)
      refine o_load rfl hB2 (v := S k) (by rw [toNat_nat, Nat.zero_add, List.getElem?_map, hk]; rfl) rfl rfl rfl rfl ?_
      (repeat first|refine zo rfl rfl trivial ?_|refine zn ?_)
      refine r_if rfl (fun h => ?_) (fun h => ?_)
      · (repeat first|refine zA ?_|refine zg ?_|refine zo rfl rfl trivial ?_|refine zn ?_|refine zr ?_)
        refine ⟨_, rfl, ?_, k1.trans k2⟩
        have : kindWords.any (fun k => decide (k = s)) = true := List.any_eq_true.2 ⟨k, List.mem_of_getElem? hk, decide_eq_true h⟩
        unfold wordR; rw [this, Bool.or_true]
      · (repeat first|refine zg ?_|refine zo rfl rfl (by first|exact trivial|(simp only[AllP];omega)) ?_|refine zn ?_|refine zk ?_)
        exact ⟨i + 1, rfl, ⟨by omega, rfl, by rw [ht1, List.any_append, hn]; simp [h]⟩, by omega⟩
    · obtain rfl : i = 11 := by omega
      have hkinds : kindWords.any (fun k => decide (k = s)) = false := hn
      (repeat first|refine zA ?_|refine zg ?_|refine zo rfl rfl trivial ?_|refine zn ?_|refine ze rfl ?_|refine zr ?_)
      exact ⟨_, rfl, by unfold wordR; rw [hrows, hkinds]; rfl, k1.trans k2⟩
end Go.Vc
/- Query: the document's names (that there is an answer). -/
namespace Go.Vc
open Go Go.Proofs
set_option maxRecDepth 20000
variable {w : World}
set_option maxHeartbeats 6400000 in
theorem Name30_ret (s : List UInt8) (hs : s.length ≤ 1048576) : Ret Tryz.prog 18 [S s] w (fun v w' => (∃ b, v = .bool b) ∧ Kp [] w w') := by
  refine enter Tryz.call18 Tryz.func18 rfl rfl rfl rfl ?_
  (repeat first|refine zA ?_|refine zB ?_|refine zg ?_|refine zo rfl rfl trivial ?_|refine zn ?_)
  refine o_split _ _ rfl rfl rfl (fun h1 => ?_) (fun h1 => ?_)
  · (repeat first|refine zA ?_|refine zg ?_|refine zo rfl rfl trivial ?_|refine zn ?_|refine zr ?_|refine zT rfl rfl rfl ?_|refine zt rfl ?_)
    exact ⟨_, rfl, ⟨_, rfl⟩, Kp.refl _ _⟩
  have h1 := of_decide_eq_false h1
  (repeat refine zo rfl rfl trivial ?_)
  refine o_split _ _ rfl rfl rfl (fun _ => ?_) (fun _ => ?_)
  · (repeat first|refine zA ?_|refine zg ?_|refine zo rfl rfl trivial ?_|refine zn ?_|refine zr ?_|refine zT rfl rfl rfl ?_|refine zt rfl ?_)
    exact ⟨_, rfl, ⟨_, rfl⟩, Kp.refl _ _⟩
  (repeat refine zo rfl rfl (by first|exact trivial|(simp only[AllP];omega)) ?_)
  refine o_split _ _ rfl rfl rfl (fun _ => ?_) (fun _ => ?_)
  · (repeat first|refine zA ?_|refine zg ?_|refine zo rfl rfl trivial ?_|refine zn ?_|refine zr ?_|refine zT rfl rfl rfl ?_|refine zt rfl ?_)
    exact ⟨_, rfl, ⟨_, rfl⟩, Kp.refl _ _⟩
  (repeat refine zo rfl rfl (by first|exact trivial|(simp only[AllP];omega)) ?_)
  refine o_split _ _ rfl rfl rfl (fun _ => ?_) (fun _ => ?_)
  · (repeat first|refine zA ?_|refine zg ?_|refine zo rfl rfl trivial ?_|refine zn ?_|refine zr ?_|refine zt rfl ?_)
    exact ⟨_, rfl, ⟨_, rfl⟩, Kp.refl _ _⟩
  (repeat refine zo rfl rfl trivial ?_)
  refine o_call (Word30_ret s (by omega)) rfl rfl rfl ?_
  rintro v w1 ⟨rfl, k1⟩
  (repeat first|refine zo rfl rfl trivial ?_|refine zn ?_)
  refine r_cond rfl (fun _ => ?_) (fun _ => ?_)
  · (repeat first|refine zA ?_|refine zg ?_|refine zo rfl rfl trivial ?_|refine zn ?_|refine zr ?_)
    exact ⟨_, rfl, ⟨_, rfl⟩, k1⟩
  (repeat first|refine zA ?_|refine zB ?_|refine zg ?_|refine zo rfl rfl trivial ?_|refine zn ?_|refine zb ?_|refine zk ?_)
  refine r_loop (α := Nat) [0, 3] (fun i => [S s, I i]) (fun i W => i ≤ s.length ∧ W = w1) (fun i => s.length - i) 1 rfl ⟨by omega, rfl⟩ ?_
  rintro i e W ⟨hi, rfl⟩
  (repeat first|refine zA ?_|refine zB ?_|refine zg ?_|refine zo rfl rfl trivial ?_|refine zn ?_)
  refine r_if rfl (fun hc => ?_) (fun hc => ?_)
  · (repeat first|refine zA ?_|refine zC ?_|refine zg ?_|refine zo rfl rfl (by first|exact trivial|(simp only[AllP];omega)) ?_|refine zb ?_|refine zk ?_)
    refine o_split _ _ rfl rfl rfl (fun _ => ?_) (fun _ => ?_)
    · (repeat first|refine zo rfl rfl (by first|exact trivial|(simp only[AllP];omega)) ?_|refine zT rfl rfl rfl ?_)
      refine o_split _ _ rfl rfl rfl (fun _ => ?_) (fun _ => ?_)
      · (repeat first|refine zA ?_|refine zg ?_|refine zo rfl rfl trivial ?_|refine zn ?_|refine zr ?_|refine zt rfl ?_)
        exact ⟨_, rfl, ⟨_, rfl⟩, k1⟩
      · (repeat first|refine zo rfl rfl (by first|exact trivial|(simp only[AllP];omega)) ?_|refine zn ?_)
        refine r_cond rfl (fun _ => ?_) (fun _ => ?_)
        · (repeat first|refine zA ?_|refine zg ?_|refine zo rfl rfl trivial ?_|refine zn ?_|refine zr ?_)
          exact ⟨_, rfl, ⟨_, rfl⟩, k1⟩
        · (repeat first|refine zg ?_|refine zo rfl rfl (by first|exact trivial|(simp only[AllP];omega)) ?_|refine zn ?_|refine zk ?_)
          exact ⟨i + 1, rfl, ⟨by omega, rfl⟩, by omega⟩
    · (repeat refine zo rfl rfl (by first|exact trivial|(simp only[AllP];omega)) ?_)
      refine o_split _ _ rfl rfl rfl (fun _ => ?_) (fun _ => ?_)
      · (repeat refine zo rfl rfl (by first|exact trivial|(simp only[AllP];omega)) ?_)
        refine o_split _ _ rfl rfl rfl (fun _ => ?_) (fun _ => ?_)
        · (repeat first|refine zA ?_|refine zg ?_|refine zo rfl rfl trivial ?_|refine zn ?_|refine zr ?_|refine zt rfl ?_)
          exact ⟨_, rfl, ⟨_, rfl⟩, k1⟩
        · (repeat first|refine zo rfl rfl (by first|exact trivial|(simp only[AllP];omega)) ?_|refine zn ?_)
          refine r_cond rfl (fun _ => ?_) (fun _ => ?_)
          · (repeat first|refine zA ?_|refine zg ?_|refine zo rfl rfl trivial ?_|refine zn ?_|refine zr ?_)
            exact ⟨_, rfl, ⟨_, rfl⟩, k1⟩
          · (repeat first|refine zg ?_|refine zo rfl rfl (by first|exact trivial|(simp only[AllP];omega)) ?_|refine zn ?_|refine zk ?_)
            exact ⟨i + 1, rfl, ⟨by omega, rfl⟩, by omega⟩
      · (repeat first|refine zg ?_|refine zo rfl rfl (by first|exact trivial|(simp only[AllP];omega)) ?_|refine zn ?_|refine zk ?_|refine zV rfl rfl rfl ?_|refine zf rfl ?_)
        exact ⟨i + 1, rfl, ⟨by omega, rfl⟩, by omega⟩
  · (repeat first|refine zA ?_|refine zg ?_|refine zo rfl rfl trivial ?_|refine zn ?_|refine ze rfl ?_|refine zr ?_)
    exact ⟨_, rfl, ⟨_, rfl⟩, k1⟩
end Go.Vc
/- what the rows' reading of a question says of how many nodes it has. -/
namespace Go.Vc
open Go Go.Proofs Go.ChangeShapes
set_option maxRecDepth 10000
theorem bulk5 {H : Type} : ∀ (l : List (DataW H)), (∀ d ∈ l, 5 ≤ Go.Proofs.YtkgngbpkiklckaaGreatDoor.Rows.uptoBulk d) → l.length * 5 ≤ Go.Proofs.YtkgngbpkiklckaaGreatDoor.Rows.uptoBulkAll l
  | [], _ => by simp [Go.Proofs.YtkgngbpkiklckaaGreatDoor.Rows.uptoBulkAll]
  | d :: r, h => by
    have ih := bulk5 r (fun x hx => h x (by simp [hx]))
    have h1 := h d (by simp)
    simp only [List.length_cons, Go.Proofs.YtkgngbpkiklckaaGreatDoor.Rows.uptoBulkAll]; omega
section
variable {H : Type} {enc : TypeId × Value → H} {w : World} {base : Nat} {sp : Nat → Bool} {held : Bool} {fuel : Nat} {d : DataW H} {ps : List MemPlace}
theorem rd_len5 {a : Option Addr} {len cap : Nat} (h : DataW.trod enc Tryz.prog w base sp held fuel 22 [Value.slice a len cap] = some (d, ps)) : len * 5 ≤ Go.Proofs.YtkgngbpkiklckaaGreatDoor.Rows.uptoBulk d := by
  obtain ⟨n, Cs, D, h1, h2, h3, h4, h5, hcap, hcm⟩ := trod_recs (m := 4) Tryz.underlying22 (by kernel_rfl) h
  have hall : Go.Proofs.YtkgngbpkiklckaaGreatDoor.Rows.uptoBulkAll D ≤ Go.Proofs.YtkgngbpkiklckaaGreatDoor.Rows.uptoBulk d := by
    rcases h5 with ⟨e1, e2⟩ | ⟨spp, e1⟩
    · rw [e2]; simp [Go.Proofs.YtkgngbpkiklckaaGreatDoor.Rows.uptoBulkAll]
    · dsimp only at e1
      rw [e1]
      simp only [Go.Proofs.YtkgngbpkiklckaaGreatDoor.Rows.uptoBulk]; omega
  have key : ∀ d' ∈ D, 5 ≤ Go.Proofs.YtkgngbpkiklckaaGreatDoor.Rows.uptoBulk d' := by
    intro d' hd'
    obtain ⟨i, hi⟩ := List.getElem?_of_mem hd'
    have hlt : i < Cs.length := by rw [h1, ← h2]; exact (List.getElem?_eq_some_iff.1 hi).1
    obtain ⟨g1, d2, p', g3, g2⟩ := h4 i _ (List.getElem?_eq_getElem hlt)
    rw [hi] at g3
    obtain rfl := Option.some.inj g3
    obtain ⟨xs, m, _, gx, _, g5, _⟩ := DataW.trod_struct Tryz.underlying81 g2
    have gd := congrArg Prod.fst gx
    dsimp only at gd
    have l6 : xs.length = 4 := g5
    have := bulkS_lenA (xs.map (·.1))
    rw [List.length_map, l6] at this
    rw [gd]
    simp only [Go.Proofs.YtkgngbpkiklckaaGreatDoor.Rows.uptoBulk]; omega
  have := bulk5 D key
  rw [h2] at this
  omega
theorem rd_ask5 {cs : Array Value} (h : DataW.trod enc Tryz.prog w base sp held fuel 30 (Value.agg cs).cells.toList = some (d, ps)) :
    ∃ x : AG, cs = ⟨x.C⟩ ∧ ∀ B, Go.Proofs.YtkgngbpkiklckaaGreatDoor.Rows.uptoBulk d ≤ B → B ≤ 1048576 → AG.Ok w x ∧ x.l.length * 5 ≤ 1048576 := by
  obtain ⟨x, rfl, hx⟩ := rd_ask h
  have h : DataW.trod enc Tryz.prog w base sp held fuel 30 x.C = some (d, ps) := h
  obtain ⟨xs, m, _, gx, g1, g5, g6⟩ := DataW.trod_struct Tryz.underlying30 h
  have gd := congrArg Prod.fst gx
  dsimp only at gd
  have l6 : xs.length = 7 := g5
  have f1 := g6 1 _ rfl
  rw [List.getElem?_eq_getElem (by omega)] at f1
  have f1' : DataW.trod enc Tryz.prog w base sp held m 24 [.slice x.qad x.l.length x.qcap] = some xs[1] := f1
  obtain ⟨ys, m', _, gy, _, k5, k6⟩ := DataW.trod_struct Tryz.underlying24 f1'
  have q0 := k6 0 _ rfl
  have k5 : ys.length = 1 := k5
  rw [List.getElem?_eq_getElem (by omega)] at q0
  have q0' : DataW.trod enc Tryz.prog w base sp held m' 22 [.slice x.qad x.l.length x.qcap] = some (ys[0].1, ys[0].2) := q0
  have h5 := rd_len5 q0'
  have my : Go.Proofs.YtkgngbpkiklckaaGreatDoor.Rows.uptoBulk ys[0].1 ≤ Go.Proofs.YtkgngbpkiklckaaGreatDoor.Rows.uptoBulkAll (ys.map (·.1)) := bulkS_mem (List.mem_map.2 ⟨_, List.getElem_mem _, rfl⟩)
  have gdy := congrArg Prod.fst gy
  dsimp only at gdy
  have n1 : Go.Proofs.YtkgngbpkiklckaaGreatDoor.Rows.uptoBulk xs[1].1 ≤ Go.Proofs.YtkgngbpkiklckaaGreatDoor.Rows.uptoBulkAll (xs.map (·.1)) := bulkS_mem (List.mem_map.2 ⟨_, List.getElem_mem _, rfl⟩)
  rw [gdy] at n1
  simp only [Go.Proofs.YtkgngbpkiklckaaGreatDoor.Rows.uptoBulk] at n1
  refine ⟨x, rfl, fun B hB hB2 => ⟨hx B hB hB2, ?_⟩⟩
  rw [gd] at hB
  simp only [Go.Proofs.YtkgngbpkiklckaaGreatDoor.Rows.uptoBulk] at hB
  omega
end
end Go.Vc
