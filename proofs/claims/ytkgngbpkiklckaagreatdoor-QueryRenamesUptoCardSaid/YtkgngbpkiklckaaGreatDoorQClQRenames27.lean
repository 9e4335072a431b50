/- Query: Print, Rename. -/
import Derived.Test.YtkgngbpkiklckaaGreatDoorQClQRenames26
namespace Go.Vc
open Go Go.Proofs
set_option maxRecDepth 10000
variable {w : World}
theorem dec_len : ∀ (n u : Nat), u < 10 ^ (n + 1) → (Lib.decDigits u).length ≤ n + 1
  | 0, u, h => by
    rw [Lib.decDigits_one (by omega)]; simp
  | n + 1, u, h => by
    by_cases h10 : u < 10
    · rw [Lib.decDigits_one h10]; simp
    · rw [decDigits_big' h10, List.length_append]
      have := dec_len n (u / 10) (by rw [Nat.pow_succ] at h; omega)
      simp; omega
theorem brkM_len (t : QT) : (brkM t).length ≤ (toldM t).length + 2 := by
  unfold brkM brk
  split
  · omega
  · simp
theorem opWord_len (k : Nat) : (opWord k).length ≤ 6 := by
  by_cases h : k < 27
  · have hall : ∀ k ∈ List.range 27, (opWord k).length ≤ 6 := by decide
    exact hall k (List.mem_range.2 h)
  · have : opWord k = [] := by
      unfold opWord
      split <;> first | omega | rfl
    rw [this]; simp
theorem told_len : ∀ t : QT, goodT t → (toldM t).length ≤ 64 * t.size
  | .n0 op num name, hg => by
    rcases hg with ⟨rfl, h1, h2, _⟩ | ⟨rfl, _, h2⟩ | ⟨rfl, _, _⟩
    · have := dec_len 19 num.toNat (by omega)
      show (Lib.decDigits num.toNat).length ≤ 64 * 1
      omega
    · unfold qName at h2
      simp only [Bool.and_eq_true, decide_eq_true_eq] at h2
      obtain ⟨⟨⟨⟨⟨_, h3⟩, _⟩, _⟩, _⟩, _⟩ := h2
      show name.length ≤ 64 * 1
      omega
    · show (opWord 3).length ≤ 64 * 1
      decide
  | .n1 op num name a, hg => by
    have ih := told_len a hg.2.1
    have hb := brkM_len a
    have hw := opWord_len op.toNat
    have hn : name.length ≤ 24 := by
      rcases hg.2.2 with ⟨_, h⟩ | ⟨_, h⟩
      · rw [h]; simp
      · unfold qName at h
        simp only [Bool.and_eq_true, decide_eq_true_eq] at h
        exact h.1.1.1.1.2
    unfold brkM at hb
    rw [toldM]
    simp only [QT.size]
    split
    · simp only [List.length_append, List.length_cons, List.length_nil]; omega
    · split
      · simp only [List.length_append, List.length_cons, List.length_nil]; omega
      · have : (if op = 17 then [(32 : UInt8)] else []).length ≤ 1 := by split <;> simp
        simp only [List.length_append]; omega
  | .n2 op num name a b, hg => by
    have iha := told_len a hg.2.1
    have ihb := told_len b hg.2.2.1
    have ha := brkM_len a
    have hb := brkM_len b
    have hw := opWord_len op.toNat
    unfold brkM at ha hb
    rw [toldM]
    simp only [QT.size]
    split <;> (simp only [List.length_append, List.length_cons, List.length_nil]; omega)
/-- what Print hands out -/
def printV (l : List QN) : List UInt8 × Int :=
  match printM l with
  | .error c => ([], c)
  | .ok s => (s, 0)
set_option maxHeartbeats 3200000 in
theorem Print_ret {l : List QN} {ad : Option Addr} {cap : Nat} (hA : AscW w) (hP : PowQ w) (hR : Rows w ad cap l) :
    Ret Tryz.prog 11 [qV ad l.length cap] w (fun v w' => v = .tuple #[S (printV l).1, I (printV l).2] ∧ Kp [] w w') := by
  have hm := hR.max_
  have hpr : printM l = match wholeM l with | none => .error 305 | some t => if 4096 < l.length then .error 3 else if 4096 < (toldM t).length then .error 3 else .ok (toldM t) := rfl
  unfold printV
  refine enter Tryz.call11 Tryz.func11 rfl rfl rfl rfl ?_
  (repeat first|refine zA ?_|refine zg ?_)
  refine o_box rfl rfl rfl ?_
  intro b w1 hb hu1
  have k1 : Kp [] w w1 := hu1.kp [] (.inr (by omega))
  have hb1 : Blk w1 b [.slice ad l.length cap] 24 := hu1.blk
  (repeat first|refine zA ?_|refine zg ?_|refine zo rfl rfl trivial ?_|refine zn ?_)
  refine o_loadA (vs := [.slice ad l.length cap]) rfl (fun j v hv => by rw [Nat.zero_add]; exact hb1.cell hv) rfl rfl rfl rfl rfl rfl ?_
  refine o_call (whole_ret (hA.kp k1 (by simp)) (hR.read.kp k1 (by simp)) hR.cap_ (by omega) hR.name) rfl rfl rfl ?_
  rintro v w2 ⟨hv, k2⟩
  cases hw : wholeM l with
  | none =>
    rw [hw] at hv hpr
    have hv : v = .pointer none := hv
    subst hv
    rw [hpr]
    (repeat first|refine zA ?_|refine zB ?_|refine zg ?_|refine zo rfl rfl trivial ?_|refine zn ?_|refine zr ?_|refine zt rfl ?_)
    exact ⟨_, rfl, rfl, k1.trans k2⟩
  | some t =>
    rw [hw] at hv hpr
    obtain ⟨p, rfl, hT⟩ := hv
    obtain ⟨hg, hrow, hd⟩ := whole_good hR.num hw
    have hsz : t.size = l.length := by rw [hrow, QT.rows_len]
    have hb2 := k2.blk (by simp) hb1
    (repeat first|refine zA ?_|refine zB ?_|refine zg ?_|refine zo rfl rfl trivial ?_|refine zn ?_|refine zk ?_|refine zf rfl ?_|refine o_load rfl hb2 rfl rfl rfl rfl rfl ?_)
    refine r_if rfl (fun hc => ?_) (fun hc => ?_)
    · have hpr : printM l = .error 3 := by rw [hpr]; exact if_pos (by omega)
      rw [hpr]
      (repeat first|refine zA ?_|refine zg ?_|refine zo rfl rfl trivial ?_|refine zn ?_|refine zr ?_)
      exact ⟨_, rfl, rfl, k1.trans k2⟩
    have hpr : printM l = if 4096 < (toldM t).length then .error 3 else .ok (toldM t) := by rw [hpr]; exact if_neg (by omega)
    have htl := told_len t hg
    (repeat first|refine zA ?_|refine zg ?_|refine zk ?_)
    refine o_alloc rfl rfl rfl rfl ?_
    intro bb w3 hbb hu3
    have k3 : Kp [] w2 w3 := hu3.kp [] (.inr (by omega))
    have hbd : BdAt w2 w3 bb [] := ⟨.inl ⟨by omega, .slice none 0 0, hu3.at_, ⟨rfl, .inl ⟨rfl, rfl⟩⟩, by simp [Value.ownBlock]⟩, k3⟩
    (repeat first|refine zA ?_|refine zB ?_|refine zg ?_|refine zo rfl rfl trivial ?_|refine zn ?_)
    refine o_call (text_ok t (hP.kp (k1.trans k2) (by simp)) hT hg hbd (by simp; omega)) rfl rfl rfl ?_
    rintro v w4 ⟨rfl, hb4⟩
    rw [List.nil_append] at hb4
    (repeat first|refine zA ?_|refine zg ?_|refine zn ?_)
    refine o_call (BLen_ret hb4.toBdAt) rfl rfl rfl ?_
    rintro v w4' ⟨rfl, rfl⟩
    (repeat first|refine zo rfl rfl trivial ?_|refine zn ?_)
    refine r_if rfl (fun hc2 => ?_) (fun hc2 => ?_)
    · rw [hpr, if_pos (by omega)]
      (repeat first|refine zA ?_|refine zg ?_|refine zo rfl rfl trivial ?_|refine zn ?_|refine zr ?_)
      exact ⟨_, rfl, rfl, (k1.trans k2).trans hb4.kp⟩
    · rw [hpr, if_neg (by omega)]
      (repeat first|refine zA ?_|refine zg ?_|refine zk ?_)
      refine o_call (BString_ret hb4.toBdAt) rfl rfl rfl ?_
      rintro v w5 ⟨rfl, hb5⟩
      (repeat first|refine zo rfl rfl trivial ?_|refine zn ?_|refine zr ?_)
      exact ⟨_, rfl, rfl, (k1.trans k2).trans hb5.kp⟩
theorem CloneQ_ret {ad : Option Addr} {l : List QN} {cap : Nat} (h : ReadS w ad (l.flatMap qC)) (hl : l.length ≤ 1048576) :
    Ret Tryz.prog 60 [.slice ad l.length cap] w (fun v w' => ∃ ad' cap', v = .slice ad' l.length cap' ∧ OwnS w' 81 4 ad' l.length cap' (l.flatMap qC) ∧ Kp [] w w' ∧ ∀ b, b ∈ blkOf ad' → w.heap.size ≤ b) := by
  have hlen := rows_cells_len l
  refine enter Tryz.call60 Tryz.func60 rfl rfl rfl rfl ?_
  (repeat first|refine zA ?_|refine zB ?_|refine zg ?_|refine zo rfl rfl trivial ?_|refine zn ?_)
  cases ad with
  | none =>
    have h0 : l.flatMap qC = [] := by simpa [ReadS] using h
    have hl0 : l = [] := by
      apply List.eq_nil_of_length_eq_zero
      rw [h0] at hlen; simp at hlen; omega
    subst hl0
    (repeat first|refine zA ?_|refine zg ?_|refine zo rfl rfl trivial ?_|refine zn ?_|refine zr ?_|refine zt rfl ?_)
    exact ⟨_, rfl, none, 0, rfl, ownS_nil _ _ _, Kp.refl _ _, by simp [blkOf]⟩
  | some a =>
    (repeat first|refine zA ?_|refine zg ?_|refine zo rfl rfl trivial ?_|refine zn ?_|refine zk ?_|refine zf rfl ?_)
    refine o_buildSlice0 rfl rfl rfl rfl ?_
    intro b w1 hb hu1
    have k1 : Kp [] w w1 := hu1.kp [] (.inr (by omega))
    have ho1 : OwnS w1 81 4 (some ⟨b, 0, none⟩) 0 0 [] := ⟨rfl, rfl, rfl, Nat.le_refl _, by simp [maxLen], [], hu1.blk, rfl⟩
    (repeat refine zo rfl rfl trivial ?_)
    refine o_appendR (k := 0) (l.flatMap qC) rfl rfl ho1 (h.kp k1 (by simp)) rfl rfl rfl (by decide) hlen (fun v hv => by
      obtain ⟨x, _, hx⟩ := List.mem_flatMap.1 hv
      simp [qC] at hx
      rcases hx with rfl | rfl | rfl | rfl <;> rfl) (by simp only [maxLen]; omega) (by omega) rfl rfl ?_
    intro ad' cap' w2 ho2 k2 hn2
    (repeat first|refine zo rfl rfl trivial ?_|refine zn ?_|refine zr ?_)
    rw [Nat.zero_add] at ho2 ⊢
    have hnew : ∀ b, b ∈ blkOf ad' → w.heap.size ≤ b := fun c hc => by
      have := k1.size
      rcases hn2 c hc with h | h
      · simp [blkOf] at h; omega
      · omega
    exact ⟨_, rfl, ad', cap', rfl, ho2, k1.since k2 (by simp [blkOf]; omega), hnew⟩
/-- a node, one name in another one's place -/
def renN (a c : List UInt8) (x : QN) : QN := if x.name = a then { x with name := c } else x
/-- P30.6 as the program has it -/
def renM (l : List QN) (a c : List UInt8) : Except Int (List QN) :=
  match wholeM l with
  | none => .error 305
  | some _ => if qName a = false ∨ qName c = false then .error 303 else .ok (l.map (renN a c))
def RenV (r : Except Int (List QN)) (w : World) (v : Value) (w' : World) : Prop :=
  match r with
  | .ok l => ∃ ad cap, v = .tuple #[qV ad l.length cap, I 0] ∧ OwnS w' 81 4 ad l.length cap (l.flatMap qC) ∧ ∀ b ∈ blkOf ad, w.heap.size ≤ b
  | .error c => v = .tuple #[qV none 0 0, I c]
set_option maxHeartbeats 6400000 in
theorem Rename_ret {l : List QN} {ad : Option Addr} {cap : Nat} (hA : AscW w) (hR : Rows w ad cap l) (a c : List UInt8) (ha : a.length ≤ 9223372036854775806) (hcl : c.length ≤ 9223372036854775806) :
    Ret Tryz.prog 26 [qV ad l.length cap, S a, S c] w (fun v w' => RenV (renM l a c) w v w' ∧ Kp [] w w') := by
  have hm := hR.max_
  have hcap := hR.cap_
  have hren : renM l a c = match wholeM l with | none => .error 305 | some _ => if qName a = false ∨ qName c = false then .error 303 else .ok (l.map (renN a c)) := rfl
  refine enterC Tryz.call26 Tryz.func26 rfl rfl rfl rfl ?_
  (repeat first|refine zA ?_|refine zg ?_)
  refine o_box rfl rfl rfl ?_
  intro b w1 hb hu1
  have k1 : Kp [] w w1 := hu1.kp [] (.inr (by omega))
  have hb1 : Blk w1 b [.slice ad l.length cap] 24 := hu1.blk
  refine o_alloc rfl rfl rfl rfl ?_
  intro q w2 hq hu2
  have k2 : Kp [] w w2 := k1.trans (hu2.kp [] (.inr (by omega)))
  have hbq : b ≠ q := by have := hu1.lt; omega
  have hb2 : Blk w2 b [.slice ad l.length cap] 24 := hu2.kept hbq hb1
  have hq2 : Blk w2 q [.slice none 0 0] 24 := hu2.blk
  have y1 := k1.size
  have hqw : w.heap.size ≤ q := by omega
  clear hu1 hu2
  have bad : ∀ {e : Env} {W : World} {x : Int}, e 6 = ptr q → e 7 = I x → Blk W q [.slice none 0 0] 24 → resC Tryz.prog e W [.cell 6 24, .tmp 7] [qV none 0 0, I x] := fun h1 h2 h3 =>
    ⟨⟨_, h1, run_loadB h3 rfl rfl rfl rfl⟩, ⟨none, by rw [h2]; rfl⟩, trivial⟩
  (repeat first|refine zA ?_|refine zB ?_|refine zg ?_|refine zo rfl rfl trivial ?_|refine zn ?_)
  refine o_loadA (vs := [.slice ad l.length cap]) rfl (fun j v hv => by rw [Nat.zero_add]; exact hb2.cell hv) rfl rfl rfl rfl rfl rfl ?_
  refine o_call (whole_ret (hA.kp k2 (by simp)) (hR.read.kp k2 (by simp)) hR.cap_ (by omega) hR.name) rfl rfl rfl ?_
  rintro v w3 ⟨hv, k3⟩
  have k03 := k2.trans k3
  have hq3 := k3.blk (by simp) hq2
  have hb3 := k3.blk (by simp) hb2
  cases hw : wholeM l with
  | none =>
    rw [hw] at hv hren
    have hv : v = .pointer none := hv
    subst hv
    rw [hren]
    (repeat first|refine zA ?_|refine zg ?_|refine zo rfl rfl trivial ?_|refine zn ?_|refine zt rfl ?_)
    refine o_build [.slice none 0 0] rfl rfl rfl rfl rfl rfl rfl ?_
    refine o_storeA (b := q) (cs := [.slice none 0 0]) rfl hq3 (Nat.le_refl _) rfl (by simp [Value.oneCell']) rfl rfl rfl rfl ?_
    intro w4 hu4
    (repeat first|refine zo rfl rfl trivial ?_|refine zn ?_|refine zr ?_)
    exact ⟨_, bad rfl rfl hu4.blk, rfl, k03.since (hu4.kp [q] (.inl (by simp))) (by simpa using hqw)⟩
  | some t =>
    rw [hw] at hv hren
    have hren : renM l a c = if qName a = false ∨ qName c = false then .error 303 else .ok (l.map (renN a c)) := hren
    obtain ⟨p, rfl, hT⟩ := hv
    (repeat first|refine zA ?_|refine zB ?_|refine zg ?_|refine zo rfl rfl trivial ?_|refine zn ?_|refine zk ?_|refine zf rfl ?_)
    refine o_call (isName_ret (hA.kp k03 (by simp)) a ha) rfl rfl rfl ?_
    rintro v w4 ⟨rfl, k4⟩
    have hq4 := k4.blk (by simp) hq3
    have hb4 := k4.blk (by simp) hb3
    have k04 := k03.trans k4
    refine o_bool [1, 2, 3, 6] [S a, S c, ptr b, ptr q] 21 (!(qName a && qName c)) (fun W => Kp [] w4 W) ?_ ?_
    · (repeat refine zo rfl rfl trivial ?_)
      refine o_split _ _ rfl rfl rfl (fun h1 => ?_) (fun h1 => ?_)
      · (repeat first|refine zo rfl rfl trivial ?_|refine zn ?_)
        exact ⟨rfl, ⟨_, rfl, by simp at h1; rw [h1]; rfl⟩, Kp.refl _ _⟩
      · (repeat refine zo rfl rfl trivial ?_)
        refine o_call (isName_ret (hA.kp k04 (by simp)) c hcl) rfl rfl rfl ?_
        rintro v w5 ⟨rfl, k5⟩
        (repeat first|refine zo rfl rfl trivial ?_|refine zn ?_)
        exact ⟨rfl, ⟨_, rfl, by simp at h1; rw [h1]; rfl⟩, k5⟩
    rintro e5 w5 k5
    have hq5 := k5.blk (by simp) hq4
    have hb5 := k5.blk (by simp) hb4
    have k05 := k04.trans k5
    refine r_cond rfl (fun hn => ?_) (fun hn => ?_)
    · have hn : qName a = false ∨ qName c = false := by
        cases h1 : qName a with
        | false => exact .inl rfl
        | true => rw [h1] at hn; simpa using hn
      rw [hren, if_pos hn]
      (repeat first|refine zA ?_|refine zg ?_)
      refine o_build [.slice none 0 0] rfl rfl rfl rfl rfl rfl rfl ?_
      refine o_storeA (b := q) (cs := [.slice none 0 0]) rfl hq5 (Nat.le_refl _) rfl (by simp [Value.oneCell']) rfl rfl rfl rfl ?_
      intro w6 hu6
      (repeat first|refine zo rfl rfl trivial ?_|refine zn ?_|refine zr ?_)
      exact ⟨_, bad rfl rfl hu6.blk, rfl, k05.since (hu6.kp [q] (.inl (by simp))) (by simpa using hqw)⟩
    have hn : ¬ (qName a = false ∨ qName c = false) := by
      simp only [Bool.not_eq_false', Bool.and_eq_true] at hn
      rw [hn.1, hn.2]; simp
    rw [hren, if_neg hn]
    (repeat first|refine zA ?_|refine zg ?_|refine zo rfl rfl trivial ?_|refine zk ?_|refine o_load rfl hb5 rfl rfl rfl rfl rfl ?_)
    refine o_call (CloneQ_ret (hR.read.kp k05 (by simp)) hR.len) rfl rfl rfl ?_
    rintro v w6 ⟨oad, ocap, rfl, hO6, k6, hf6⟩
    have y5 := k05.size
    refine o_build [.slice oad l.length ocap] rfl rfl rfl rfl rfl rfl rfl ?_
    refine o_alloc rfl rfl rfl rfl ?_
    intro ob w7 hob hu7
    have k7 : Kp [] w6 w7 := hu7.kp [] (.inr (by omega))
    refine o_storeA (b := ob) (cs := [.slice oad l.length ocap]) rfl hu7.blk (Nat.le_refl _) rfl (by simp [Value.oneCell']) rfl rfl rfl rfl ?_
    intro w8 hu8
    have k8 : Kp [] w6 w8 := k7.since (hu8.kp [ob] (.inl (by simp))) (by simp; omega)
    have hob8 : Blk w8 ob [.slice oad l.length ocap] 24 := hu8.blk
    have y6 := k6.size
    have hO8 := hO6.kp k8 (by simp)
    have hq8 := (hq5.lt)
    have hobl : ∀ c ∈ blkOf oad, c ≠ ob ∧ c ≠ q := fun c hc => by
      have := hO6.lt c hc
      have := hf6 c hc
      omega
    clear hu7 hu8
    (repeat first|refine zA ?_|refine zB ?_|refine zg ?_|refine zo rfl rfl trivial ?_|refine zn ?_|refine zb ?_|refine o_load rfl hob8 rfl rfl rfl rfl rfl ?_)
    refine r_loop (α := Nat) [1, 2, 6, 8, 29, 30] (fun i => [S a, S c, ptr q, ptr ob, I l.length, I i]) (fun i W => i ≤ l.length ∧ OwnS W 81 4 oad l.length ocap (((l.take i).map (renN a c) ++ l.drop i).flatMap qC) ∧ Kp (blkOf oad) w8 W) (fun i => l.length - i) 0 rfl ⟨by omega, by simpa using hO8, Kp.refl _ _⟩ ?_
    rintro i e9 W ⟨hi, hOW, kW⟩
    have hobW := kW.blk (fun h => (hobl _ h).1 rfl) hob8
    (repeat first|refine zA ?_|refine zD ?_|refine zg ?_|refine zo rfl rfl trivial ?_|refine zn ?_)
    refine r_if rfl (fun hc => ?_) (fun hc => ?_)
    · have hi2 : i < l.length := by omega
      obtain ⟨x, hx⟩ : ∃ x, l[i]? = some x := ⟨_, List.getElem?_eq_getElem hi2⟩
      have hlen : ((l.take i).map (renN a c) ++ l.drop i).length = l.length := by simp; omega
      have hget : ((l.take i).map (renN a c) ++ l.drop i)[i]? = some x := by
        rw [List.getElem?_append_right (by simp; omega)]
        simp [Nat.min_eq_left hi, hx]
      rw [← hlen] at hOW
      obtain ⟨bo, L, rfl, hL, hLl, hcell, hset⟩ := hOW.rec (f := qC) (m := 4) qC_len (by omega) (i := i) (by omega)
      have hnext : ((l.take (i + 1)).map (renN a c) ++ l.drop (i + 1)) = ((l.take i).map (renN a c) ++ l.drop i).set i (renN a c x) := by
        apply List.ext_getElem?
        intro j
        rw [List.getElem?_set]
        by_cases hj : i = j
        · subst hj
          rw [if_pos rfl, if_pos (by omega), List.getElem?_append_left (by simp; omega), List.getElem?_map, List.getElem?_take_of_lt (by omega), hx]; rfl
        · rw [if_neg hj]
          by_cases hlt : j < i
          · rw [List.getElem?_append_left (by simp; omega), List.getElem?_append_left (by simp; omega), List.getElem?_map, List.getElem?_map, List.getElem?_take_of_lt (by omega), List.getElem?_take_of_lt (by omega)]
          · rw [List.getElem?_append_right (by simp; omega), List.getElem?_append_right (by simp; omega)]
            simp only [List.length_map, List.length_take, List.getElem?_drop]
            congr 1; omega
      (repeat first|refine zA ?_|refine zC ?_|refine zg ?_|refine zo rfl rfl (by first|exact trivial|(simp only[AllP];omega)) ?_|refine zn ?_|refine zb ?_|refine zk ?_|refine o_load rfl hobW rfl rfl rfl rfl rfl ?_)
      refine o_load (v := S x.name) rfl hL (by
        have := hcell x hget 3 (S x.name) rfl
        rw [toNat_nat, Nat.zero_add]; exact this) rfl rfl rfl rfl ?_
      (repeat first|refine zo rfl rfl trivial ?_|refine zn ?_)
      refine r_cut (α := Unit) [1, 2, 6, 8, 29, 30] (fun _ => [S a, S c, ptr q, ptr ob, I l.length, I i]) (fun _ W' => OwnS W' 81 4 (some ⟨bo, 0, none⟩) l.length ocap (((l.take (i + 1)).map (renN a c) ++ l.drop (i + 1)).flatMap qC) ∧ Kp (blkOf (some ⟨bo, 0, none⟩)) w8 W') ?_ ?_
      · refine r_if rfl (fun hxa => ?_) (fun hxa => ?_)
        · have e1 : renN a c x = { x with name := c } := by unfold renN; rw [if_pos hxa]
          (repeat first|refine zg ?_|refine zo rfl rfl (by first|exact trivial|(simp only[AllP];omega)) ?_|refine o_load rfl hobW rfl rfl rfl rfl rfl ?_)
          refine o_store (b := bo) (off := i * 4 + 3) (v := S c) (by rw [toNat_nat, Nat.zero_add]; rfl) hL (by omega) rfl rfl rfl rfl rfl rfl ?_
          intro w9 hu9
          (repeat refine zn ?_)
          refine ⟨(), rfl, ?_, kW.trans (hu9.kp _ (.inl (by simp [blkOf])))⟩
          rw [hnext, ← hlen, e1]
          refine hset _ w9 ?_
          have e2 : setMany L (i * 4) (qC { x with name := c }) = L.set (i * 4 + 3) (S c) := set_many_cell L (cs := qC x) (j := 3) (v := S c) (fun j' v' h => hcell x hget j' v' h) (by rw [qC_len]; omega) (by rw [qC_len]; omega)
          rw [e2]; exact hu9
        · have e1 : renN a c x = x := by unfold renN; rw [if_neg hxa]
          (repeat refine zk ?_)
          refine ⟨(), rfl, ?_, kW⟩
          rw [hnext, e1, ← hlen]
          have e2 : ((l.take i).map (renN a c) ++ l.drop i).set i x = (l.take i).map (renN a c) ++ l.drop i := by
            apply List.ext_getElem?
            intro j
            rw [List.getElem?_set]
            by_cases hj : i = j
            · subst hj; rw [if_pos rfl, if_pos (by omega), hget]
            · rw [if_neg hj]
          rw [e2]
          exact hOW
      rintro _ e10 w10 ⟨hO10, k10⟩
      (repeat first|refine zg ?_|refine zo rfl rfl (by first|exact trivial|(simp only[AllP];omega)) ?_|refine zn ?_)
      exact ⟨i + 1, rfl, ⟨by omega, hO10, k10⟩, by omega⟩
    · have hi3 : i = l.length := by omega
      subst hi3
      rw [List.take_length, List.drop_length, List.append_nil] at hOW
      have hqW := kW.blk (fun h => (hobl _ h).2 rfl) (k8.blk (by simp) (k6.blk (by simp) hq5))
      have k0W : Kp [] w W := ((k05.trans k6).trans k8).since kW (fun c hc => by have := hf6 c hc; omega)
      (repeat first|refine zA ?_|refine zg ?_|refine ze rfl ?_)
      refine o_loadA (vs := [.slice oad l.length ocap]) rfl (fun j v hv => by rw [Nat.zero_add]; exact hobW.cell hv) rfl rfl rfl rfl rfl rfl ?_
      refine o_storeA (b := q) (cs := [.slice oad l.length ocap]) rfl hqW (Nat.le_refl _) rfl (by simp [Value.oneCell']) rfl rfl rfl rfl ?_
      intro w9 hu9
      (repeat first|refine zo rfl rfl trivial ?_|refine zn ?_|refine zr ?_)
      refine ⟨[.agg ⟨[.slice oad l.length ocap]⟩, I 0], ⟨⟨_, rfl, run_loadB hu9.blk rfl rfl rfl rfl⟩, ⟨none, rfl⟩, trivial⟩, ⟨oad, ocap, ?_, ?_, fun c hc => by have := hf6 c hc; omega⟩, k0W.since (hu9.kp [q] (.inl (by simp))) (by simpa using hqw)⟩
      · rw [List.length_map]; rfl
      · rw [List.length_map]
        exact hOW.upd hu9 (fun h => (hobl _ h).2 rfl)
end Go.Vc
