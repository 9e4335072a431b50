/- Query: Print, Rename. -/
import Derived.Test.YtkgngbpkiklckaaGreatDoorQClQAlike23
namespace Go.Vc
open Go Go.Proofs
set_option maxRecDepth 10000
variable {w : World}
theorem dec_len : ∀ (n u : Nat), u < 10 ^ (n + 1) → (Lib.decDigits u).length ≤ n + 1
  | 0, u, h => by
    rw [Lib.decDigits_one (by omega)]; simp
  | n + 1, u, h => by
    by_cases h10 : u < 10
    · rw [Lib.decDigits_one h10]; simp
    · rw [decDigits_big' h10, List.length_append]
      have := dec_len n (u / 10) (by rw [Nat.pow_succ] at h; omega)
      simp; omega
theorem brkM_len (t : QT) : (brkM t).length ≤ (toldM t).length + 2 := by
  unfold brkM brk
  split
  · omega
  · simp
theorem opWord_len (k : Nat) : (opWord k).length ≤ 6 := by
  by_cases h : k < 27
  · have hall : ∀ k ∈ List.range 27, (opWord k).length ≤ 6 := by decide
    exact hall k (List.mem_range.2 h)
  · have : opWord k = [] := by
      unfold opWord
      split <;> first | omega | rfl
    rw [this]; simp
theorem told_len : ∀ t : QT, goodT t → (toldM t).length ≤ 64 * t.size
  | .n0 op num name, hg => by
    rcases hg with ⟨rfl, h1, h2, _⟩ | ⟨rfl, _, h2⟩ | ⟨rfl, _, _⟩
    · have := dec_len 19 num.toNat (by omega)
      show (Lib.decDigits num.toNat).length ≤ 64 * 1
      omega
    · unfold qName at h2
      simp only [Bool.and_eq_true, decide_eq_true_eq] at h2
      obtain ⟨⟨⟨⟨⟨_, h3⟩, _⟩, _⟩, _⟩, _⟩ := h2
      show name.length ≤ 64 * 1
      omega
    · show (opWord 3).length ≤ 64 * 1
      decide
  | .n1 op num name a, hg => by
    have ih := told_len a hg.2.1
    have hb := brkM_len a
    have hw := opWord_len op.toNat
    have hn : name.length ≤ 24 := by
      rcases hg.2.2 with ⟨_, h⟩ | ⟨_, h⟩
      · rw [h]; simp
      · unfold qName at h
        simp only [Bool.and_eq_true, decide_eq_true_eq] at h
        exact h.1.1.1.1.2
    unfold brkM at hb
    rw [toldM]
    simp only [QT.size]
    split
    · simp only [List.length_append, List.length_cons, List.length_nil]; omega
    · split
      · simp only [List.length_append, List.length_cons, List.length_nil]; omega
      · have : (if op = 17 then [(32 : UInt8)] else []).length ≤ 1 := by split <;> simp
        simp only [List.length_append]; omega
  | .n2 op num name a b, hg => by
    have iha := told_len a hg.2.1
    have ihb := told_len b hg.2.2.1
    have ha := brkM_len a
    have hb := brkM_len b
    have hw := opWord_len op.toNat
    unfold brkM at ha hb
    rw [toldM]
    simp only [QT.size]
    split <;> (simp only [List.length_append, List.length_cons, List.length_nil]; omega)
/-- what Print hands out -/
def printV (l : List QN) : List UInt8 × Int :=
  match printM l with
  | .error c => ([], c)
  | .ok s => (s, 0)
set_option maxHeartbeats 3200000 in
theorem Print_ret {l : List QN} {ad : Option Addr} {cap : Nat} (hA : AscW w) (hP : PowQ w) (hR : Rows w ad cap l) :
    Ret Tryz.prog 11 [qV ad l.length cap] w (fun v w' => v = .tuple #[S (printV l).1, I (printV l).2] ∧ Kp [] w w') := by
  have hm := hR.max_
  have hpr : printM l = match wholeM l with | none => .error 305 | some t => if 4096 < l.length then .error 3 else if 4096 < (toldM t).length then .error 3 else .ok (toldM t) := rfl
  unfold printV
  refine enter Tryz.call11 Tryz.func11 rfl rfl rfl rfl ?_
  (repeat first|refine zA ?_|refine zg ?_)
  refine o_box rfl rfl rfl ?_
  intro b w1 hb hu1
  have k1 : Kp [] w w1 := hu1.kp [] (.inr (by omega))
  have hb1 : Blk w1 b [.slice ad l.length cap] 24 := hu1.blk
  (repeat first|refine zA ?_|refine zg ?_|refine zo rfl rfl trivial ?_|refine zn ?_)
  refine o_loadA (vs := [.slice ad l.length cap]) rfl (fun j v hv => by rw [Nat.zero_add]; exact hb1.cell hv) rfl rfl rfl rfl rfl rfl ?_
  refine o_call (whole_ret (hA.kp k1 (by simp)) (hR.read.kp k1 (by simp)) hR.cap_ (by omega) hR.name) rfl rfl rfl ?_
  rintro v w2 ⟨hv, k2⟩
  cases hw : wholeM l with
  | none =>
    rw [hw] at hv hpr
    have hv : v = .pointer none := hv
    subst hv
    rw [hpr]
    (repeat first|refine zA ?_|refine zB ?_|refine zg ?_|refine zo rfl rfl trivial ?_|refine zn ?_|refine zr ?_|refine zt rfl ?_)
    exact ⟨_, rfl, rfl, k1.trans k2⟩
  | some t =>
    rw [hw] at hv hpr
    obtain ⟨p, rfl, hT⟩ := hv
    obtain ⟨hg, hrow, hd⟩ := whole_good hR.num hw
    have hsz : t.size = l.length := by rw [hrow, QT.rows_len]
    have hb2 := k2.blk (by simp) hb1
    (repeat first|refine zA ?_|refine zB ?_|refine zg ?_|refine zo rfl rfl trivial ?_|refine zn ?_|refine zk ?_|refine zf rfl ?_|refine o_load rfl hb2 rfl rfl rfl rfl rfl ?_)
    refine r_if rfl (fun hc => ?_) (fun hc => ?_)
    · have hpr : printM l = .error 3 := by rw [hpr]; exact if_pos (by omega)
      rw [hpr]
      (repeat first|refine zA ?_|refine zg ?_|refine zo rfl rfl trivial ?_|refine zn ?_|refine zr ?_)
      exact ⟨_, rfl, rfl, k1.trans k2⟩
    have hpr : printM l = if 4096 < (toldM t).length then .error 3 else .ok (toldM t) := by rw [hpr]; exact if_neg (by omega)
    have htl := told_len t hg
    (repeat first|refine zA ?_|refine zg ?_|refine zk ?_)
    refine o_alloc rfl rfl rfl rfl ?_
    intro bb w3 hbb hu3
    have k3 : Kp [] w2 w3 := hu3.kp [] (.inr (by omega))
    have hbd : BdAt w2 w3 bb [] := ⟨.inl ⟨by omega, .slice none 0 0, hu3.at_, ⟨rfl, .inl ⟨rfl, rfl⟩⟩, by simp [Value.ownBlock]⟩, k3⟩
    (repeat first|refine zA ?_|refine zB ?_|refine zg ?_|refine zo rfl rfl trivial ?_|refine zn ?_)
    refine o_call (text_ok t (hP.kp (k1.trans k2) (by simp)) hT hg hbd (by simp; omega)) rfl rfl rfl ?_
    rintro v w4 ⟨rfl, hb4⟩
    rw [List.nil_append] at hb4
    (repeat first|refine zA ?_|refine zg ?_|refine zn ?_)
    refine o_call (BLen_ret hb4.toBdAt) rfl rfl rfl ?_
    rintro v w4' ⟨rfl, rfl⟩
    (repeat first|refine zo rfl rfl trivial ?_|refine zn ?_)
    refine r_if rfl (fun hc2 => ?_) (fun hc2 => ?_)
    · rw [hpr, if_pos (by omega)]
      (repeat first|refine zA ?_|refine zg ?_|refine zo rfl rfl trivial ?_|refine zn ?_|refine zr ?_)
      exact ⟨_, rfl, rfl, (k1.trans k2).trans hb4.kp⟩
    · rw [hpr, if_neg (by omega)]
      (repeat first|refine zA ?_|refine zg ?_|refine zk ?_)
      refine o_call (BString_ret hb4.toBdAt) rfl rfl rfl ?_
      rintro v w5 ⟨rfl, hb5⟩
      (repeat first|refine zo rfl rfl trivial ?_|refine zn ?_|refine zr ?_)
      exact ⟨_, rfl, rfl, (k1.trans k2).trans hb5.kp⟩
/-- a node, one name in another one's place -/
def renN (a c : List UInt8) (x : QN) : QN := if x.name = a then { x with name := c } else x
/-- P30.6 as the program has it -/
def renM (l : List QN) (a c : List UInt8) : Except Int (List QN) :=
  match wholeM l with
  | none => .error 305
  | some _ => if qName a = false ∨ qName c = false then .error 303 else .ok (l.map (renN a c))
def RenV (r : Except Int (List QN)) (w : World) (v : Value) (w' : World) : Prop :=
  match r with
  | .ok l => ∃ ad cap, v = .tuple #[qV ad l.length cap, I 0] ∧ OwnS w' 81 4 ad l.length cap (l.flatMap qC) ∧ ∀ b ∈ blkOf ad, w.heap.size ≤ b
  | .error c => v = .tuple #[qV none 0 0, I c]
end Go.Vc
