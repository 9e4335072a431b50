/- Parts of a proof. -/
import Derived.Test.YtkgngbpkiklckaaGreatDoorQClQExact32
set_option maxHeartbeats 12800000
namespace Go.Vc
open Go Go.Proofs
set_option maxRecDepth 20000
section
variable {w : World}
def rtO (op : Int) : RT := if 1 ≤ op ∧ op ≤ 26 then rowT.getD (op.toNat - 1) ⟨[], 0, 0, 0, false⟩ else ⟨[], 0, 0, 0, false⟩
theorem rtO_at {op : Int} (h1 : 1 ≤ op) (h2 : op ≤ 26) : rowT[(op - 1).toNat]? = some (rtO op) := by
 unfold rtO
 rw [if_pos ⟨h1, h2⟩, show (op - 1).toNat = op.toNat - 1 by omega, List.getD_eq_getElem?_getD]
 have : op.toNat - 1 < rowT.length := by show _ < 26; omega
 rw [List.getElem?_eq_getElem this]; rfl
theorem rtO_all : ∀ k : Nat, k < 27 → 1 ≤ k → (rtO k).kids = (Jc7 k : Int) ∧ (rtO k).of_ = ofO k ∧ (rtO k).ans = Jb2 k ∧ (rtO k).binds = Jb6 k ∧ (rtO k).word = Ja3 k := dE
theorem Jr5 {op : Int} (h1 : 1 ≤ op) (h2 : op ≤ 26) : (rtO op).kids = (Jc7 op.toNat : Int) ∧ (rtO op).of_ = ofO op.toNat ∧ (rtO op).ans = Jb2 op.toNat ∧ (rtO op).binds = Jb6 op.toNat ∧ (rtO op).word = Ja3 op.toNat := by
 obtain ⟨k, rfl⟩ : ∃ k : Nat, op = k := ⟨op.toNat, oM⟩
 exact rtO_all k oM oM
theorem Jl0 (op : Int) : Ret Tryz.prog 68 [I op] w (fun v w' => v = .tuple #[.agg ⟨rtC (rtO op)⟩, .bool (decide (1 ≤ op ∧ op ≤ 26))] ∧ Kp [] w w') := by
 refine Zd Tryz.call68 Tryz.func68 ?_
 refine zS ?_
 refine Za ?_
 intro b2 w1 e2 hu1
 have k1 : Kp [] w w1 := hu1.new oM
 have g2 : Blk w1 b2 (rtC ⟨[], 0, 0, 0, false⟩) 154 := hu1.blk
 have n2 : w.heap.size ≤ b2 := oM
 clear hu1
 refine zS ?_
 refine Zc Qm9 ?_
 rintro v w2 ⟨b4, rfl, g4, k2⟩
 have g2 := k2.b0 g2
 have k0 := k1.trans k2
 have fin : ∀ {e : Env} {W : World} {r : RT} {b : Bool}, e 2 = ptr b2 → e 3 = .bool b → Blk W b2 (rtC r) 154 → resC Tryz.prog e W [.cell 2 154, .tmp 3] [.agg ⟨rtC r⟩, .bool b] := fun h1 h2 h3 => ⟨⟨_, h1, Jb9 h3 rfl rfl rfl rfl⟩, ⟨none, by rw [h2]; rfl⟩, trivial⟩
 have out : ¬ (1 ≤ op ∧ op ≤ 26) → rtO op = ⟨[], 0, 0, 0, false⟩ := fun h => by unfold rtO; rw [if_neg h]
 refine zS ?_
 refine Ja5 _ _ rfl rfl rfl (fun h => ?_) (fun h => ?_)
 ·have h : op < 1 := of_decide_eq_true h
  refine zS ?_
  refine Zb (rtC ⟨[], 0, 0, 0, false⟩) ?_
  refine Zs (b := b2) (cs := rtC ⟨[], 0, 0, 0, false⟩) rfl g2 lR rfl (by simp [Value.oneCell', rtC]) ?_
  intro w3 hu3
  rw [out oM, decide_eq_false oM]
  refine zS ?_
  exact ⟨_, fin rfl rfl hu3.blk, rfl, k0.since (hu3.kp [b2] (.inl sI)) (by simpa using n2)⟩
 have h : ¬ op < 1 := of_decide_eq_false h
 refine zS ?_
 refine r_if rfl (fun h2 => ?_) (fun h2 => ?_)
 ·refine zS ?_
  refine Zb (rtC ⟨[], 0, 0, 0, false⟩) ?_
  refine Zs (b := b2) (cs := rtC ⟨[], 0, 0, 0, false⟩) rfl g2 lR rfl (by simp [Value.oneCell', rtC]) ?_
  intro w3 hu3
  rw [out oM, decide_eq_false oM]
  refine zS ?_
  exact ⟨_, fin rfl rfl hu3.blk, rfl, k0.since (hu3.kp [b2] (.inl sI)) (by simpa using n2)⟩
 ·rw [decide_eq_true (show 1 ≤ op ∧ op ≤ 26 by omega)]
  have hr := rtO_at (op := op) oM oM
  refine zS ?_
  refine Zm (vs := rtC (rtO op)) rfl (fun j v hv => by rw [Nat.zero_add]; exact g4.cell (Jm9 (f := rtC) (m := 5) (fun _ => rfl) hr hv)) ?_
  refine Zs (b := b2) (cs := rtC (rtO op)) rfl g2 lR rfl (by simp [Value.oneCell', rtC]) ?_
  intro w3 hu3
  refine zS ?_
  exact ⟨_, fin rfl rfl hu3.blk, rfl, k0.since (hu3.kp [b2] (.inl sI)) (by simpa using n2)⟩
theorem wordR_eq {s : List UInt8} (h : Jb0 (s.getD 0 0) = true) : wordR s = wordP s := by
 have hc : decide ((97 : Int) ≤ (s.getD 0 0).toNat) = true := decide_eq_true (by have := ((Jn1 _).1 h).1; omega)
 have e1 : (rowT.drop 2).any (rowIs s) = ((rowT.drop 2).map RT.word).any fun x => decide (x = s) := by
  rw [List.any_map]
  congr 1
  funext r
  unfold rowIs
  rw [hc, Bool.and_true]; rfl
 have e2 : (rowT.drop 2).map RT.word = (List.range 24).map fun k => Ja3 (k + 3) := dE
 unfold wordR wordP
 rw [e1, e2, List.any_map]; rfl
theorem Jj9 (s : List UInt8) (hs : s.length ≤ 9223372036854775806) : Ret Tryz.prog 18 [S s] w (fun v w' => v = .bool (Jc5 s) ∧ Kp [] w w') := by
 refine Ze Tryz.call18 Tryz.func18 ?_
 refine zS ?_
 refine Ja5 _ _ rfl rfl rfl (fun h1 => ?_) (fun h1 => ?_)
 ·have h1 : (s.length : Int) < 1 := of_decide_eq_true h1
  have : s = [] := List.eq_nil_of_length_eq_zero oM
  subst this
  refine zS ?_
  exact ⟨_, rfl, rfl, Kp.refl _ _⟩
 have h1 : ¬ (s.length : Int) < 1 := of_decide_eq_false h1
 refine zS ?_
 refine Ja5 _ _ rfl rfl rfl (fun h2 => ?_) (fun h2 => ?_)
 ·have h2 : (24 : Int) < s.length := of_decide_eq_true h2
  rw [qName_long (s := s) oM]
  refine zS ?_
  exact ⟨_, rfl, rfl, Kp.refl _ _⟩
 have h2 : ¬ (24 : Int) < s.length := of_decide_eq_false h2
 refine zS ?_
 refine Ja5 _ _ rfl rfl rfl (fun h3 => ?_) (fun h3 => ?_)
 ·have h3 : ((s.getD 0 0).toNat : Int) < 97 := of_decide_eq_true h3
  rw [Qc8 (s := s) oM (by rw [Bool.eq_false_iff]; intro h; have := (Jn1 _).1 h; omega)]
  refine zS ?_
  exact ⟨_, rfl, rfl, Kp.refl _ _⟩
 have h3 : ¬ ((s.getD 0 0).toNat : Int) < 97 := of_decide_eq_false h3
 refine zS ?_
 refine Ja5 _ _ rfl rfl rfl (fun h4 => ?_) (fun h4 => ?_)
 ·have h4 : (122 : Int) < (s.getD 0 0).toNat := of_decide_eq_true h4
  rw [Qc8 (s := s) oM (by rw [Bool.eq_false_iff]; intro h; have := (Jn1 _).1 h; omega)]
  refine zS ?_
  exact ⟨_, rfl, rfl, Kp.refl _ _⟩
 have h4 : ¬ (122 : Int) < (s.getD 0 0).toNat := of_decide_eq_false h4
 have hl : Jb0 (s.getD 0 0) = true := (Jn1 _).2 oM
 have hq := qName_s2 (s := s) oM hl
 rw [decide_eq_true (show s.length ≤ 24 by omega), Bool.true_and, ← wordR_eq hl] at hq
 refine zS ?_
 refine Zc (Word30_ret s oM) ?_
 rintro v w1 ⟨rfl, k1⟩
 refine zS ?_
 refine Je1 rfl (fun h5 => ?_) (fun h5 => ?_)
 ·rw [h5] at hq
  rw [hq]
  refine zS ?_
  exact ⟨_, rfl, rfl, k1⟩
 rw [h5, Bool.not_false, Bool.true_and] at hq
 rw [hq]
 clear hq
 refine zS ?_
 refine Jb4 (α := Nat) [0, 3] (fun i => [S s, I i]) (fun i W => 1 ≤ i ∧ i ≤ s.length ∧ W = w1 ∧ ∀ j, 1 ≤ j → j < i → ldB (s.getD j 0) = true) (fun i => s.length - i) 1 rfl ⟨oM, oM, rfl, fun j h h2 => oM⟩ ?_
 rintro i e W ⟨hi1, hi, rfl, hall⟩
 have bad : i < s.length → ldB (s.getD i 0) = false → (s.drop 1).all ldB = false := fun hlt hb => by
  rw [Bool.eq_false_iff]; intro h; rw [all_drop.1 h i hi1 hlt] at hb; cases hb
 have good : ldB (s.getD i 0) = true → ∀ j, 1 ≤ j → j < i + 1 → ldB (s.getD j 0) = true := fun hb j h1 h2 => by
  by_cases hj : j = i
  ·subst hj; exact hb
  ·exact hall j h1 oM
 have ldF : ¬ ((97 ≤ (s.getD i 0).toNat ∧ (s.getD i 0).toNat ≤ 122) ∨ (48 ≤ (s.getD i 0).toNat ∧ (s.getD i 0).toNat ≤ 57)) → ldB (s.getD i 0) = false := fun h => by
  rw [Bool.eq_false_iff]; intro h2; exact h ((ld_iff _).1 h2)
 refine zS ?_
 refine r_if rfl (fun hc => ?_) (fun hc => ?_)
 ·refine zS ?_
  refine Ja5 _ _ rfl rfl rfl (fun g1 => ?_) (fun g1 => ?_)
  ·have g1 : ((s.getD i 0).toNat : Int) < 97 := of_decide_eq_true g1
   refine zS ?_
   refine Ja5 _ _ rfl rfl rfl (fun g2 => ?_) (fun g2 => ?_)
   ·have g2 : ((s.getD i 0).toNat : Int) < 48 := of_decide_eq_true g2
    rw [bad oM (ldF oM)]
    refine zS ?_
    exact ⟨_, rfl, rfl, k1⟩
   ·have g2 : ¬ ((s.getD i 0).toNat : Int) < 48 := of_decide_eq_false g2
    refine zS ?_
    refine r_if rfl (fun g3 => ?_) (fun g3 => ?_)
    ·have g3 : (57 : Int) < (s.getD i 0).toNat := g3
     rw [bad oM (ldF oM)]
     refine zS ?_
     exact ⟨_, rfl, rfl, k1⟩
    ·have g3 : ¬ (57 : Int) < (s.getD i 0).toNat := g3
     refine zS ?_
     exact ⟨i + 1, rfl, ⟨oM, oM, rfl, good ((ld_iff _).2 oM)⟩, oM⟩
  ·have g1 : ¬ ((s.getD i 0).toNat : Int) < 97 := of_decide_eq_false g1
   refine zS ?_
   refine Ja5 _ _ rfl rfl rfl (fun g2 => ?_) (fun g2 => ?_)
   ·have g2 : (122 : Int) < (s.getD i 0).toNat := of_decide_eq_true g2
    refine zS ?_
    refine Ja5 _ _ rfl rfl rfl (fun g4 => ?_) (fun g4 => ?_)
    ·have g4 : ((s.getD i 0).toNat : Int) < 48 := of_decide_eq_true g4
     omega
    ·refine zS ?_
     refine r_if rfl (fun g3 => ?_) (fun g3 => ?_)
     ·rw [bad oM (ldF oM)]
      refine zS ?_
      exact ⟨_, rfl, rfl, k1⟩
     ·have g3 : ¬ (57 : Int) < (s.getD i 0).toNat := g3
      omega
   ·have g2 : ¬ (122 : Int) < (s.getD i 0).toNat := of_decide_eq_false g2
    refine zS ?_
    exact ⟨i + 1, rfl, ⟨oM, oM, rfl, good ((ld_iff _).2 oM)⟩, oM⟩
 ·obtain rfl : i = s.length := oM
  rw [all_drop.2 hall]
  refine zS ?_
  exact ⟨_, rfl, rfl, k1⟩
def badN (op num : Int) : Bool := decide (num < 0) || (!decide (op = 1) && !decide (num = 0))
theorem ownQ_eq {op num : Int} {name : List UInt8} (hv : 1 ≤ op ∧ op ≤ 26) : ownQ op num name = (!badN op num && (if (rtO op).binds || decide (op = 2) then Jc5 name else decide (name = []))) := by
 unfold ownQ badN
 rw [(Jr5 hv.1 hv.2).2.2.2.1, decide_eq_true hv.1, decide_eq_true hv.2, Bool.true_and, Bool.true_and]
 congr 1
 by_cases h1 : num < 0
 ·rw [decide_eq_true h1, decide_eq_false (show ¬ 0 ≤ num by omega)]; rfl
 ·rw [decide_eq_false h1, decide_eq_true (show 0 ≤ num by omega)]
  by_cases h2 : op = 1 <;> by_cases h3 : num = 0 <;> simp [h2, h3]
theorem ownQ_out {op num : Int} {name : List UInt8} (hv : ¬ (1 ≤ op ∧ op ≤ 26)) : ownQ op num name = false := by
 unfold ownQ
 by_cases h : 1 ≤ op
 ·rw [decide_eq_false (show ¬ op ≤ 26 by omega)]; simp
 ·rw [decide_eq_false h]; simp
theorem own30_ret (x : QN) (hx : x.name.length ≤ 9223372036854775806) : Ret Tryz.prog 149 [.agg ⟨qC x⟩] w (fun v w' => v = .bool (ownQ x.op x.num x.name) ∧ Kp [] w w') := by
 refine Ze Tryz.call149 Tryz.func149 ?_
 refine zS ?_
 refine Zx ?_
 intro b1 w1 e1 hu1
 have k1 : Kp [] w w1 := hu1.new oM
 have g1 : Blk w1 b1 (qC x) 81 := hu1.blk
 clear hu1
 refine zL g1 ?_
 refine Zc (Jl0 x.op) ?_
 rintro v w2 ⟨rfl, k2⟩
 have k0 := k1.trans k2
 have g1 := k2.b0 g1
 refine zS ?_
 refine Za ?_
 intro b3 w3 e3 hu3
 refine Zs (b := b3) (cs := rtC (rtO x.op)) rfl hu3.blk lR rfl (by simp [Value.oneCell', rtC]) ?_
 intro w4 hu4
 have k24 : Kp [] w2 w4 := (hu3.new oM).since (hu4.kp [b3] (.inl sI)) (by simp; omega)
 have g3 : Blk w4 b3 (rtC (rtO x.op)) 154 := hu4.blk
 have g1 := k24.b0 g1
 have k0 := k0.trans k24
 clear hu3 hu4 k24
 by_cases hv : 1 ≤ x.op ∧ x.op ≤ 26
 rotate_left
 ·rw [decide_eq_false hv, ownQ_out hv]
  refine zS ?_
  exact ⟨_, rfl, rfl, k0⟩
 rw [decide_eq_true hv, ownQ_eq hv]
 refine zS ?_
 refine Jn9 [1, 3] [ptr b1, ptr b3] 27 (badN x.op x.num) (fun W => W = w4) ?_ ?_
 ·refine zL g1 ?_
  refine Ja5 _ _ rfl rfl rfl (fun h1 => ?_) (fun h1 => ?_)
  ·have h1 : x.num < 0 := of_decide_eq_true h1
   refine zL g1 ?_
   exact ⟨rfl, ⟨_, rfl, by unfold badN; rw [decide_eq_true h1]; rfl⟩, rfl⟩
  have h1 : ¬ x.num < 0 := of_decide_eq_false h1
  refine zL g1 ?_
  refine Ja5 _ _ rfl rfl rfl (fun h2 => ?_) (fun h2 => ?_)
  ·refine zL g1 ?_
   exact ⟨rfl, ⟨_, rfl, by unfold badN; rw [decide_eq_false h1, h2]; rfl⟩, rfl⟩
  ·refine zL g1 ?_
   exact ⟨rfl, ⟨_, rfl, by unfold badN; rw [decide_eq_false h1, h2]; rfl⟩, rfl⟩
 rintro e5 w4 rfl
 refine zS ?_
 refine Je1 rfl (fun hb => ?_) (fun hb => ?_)
 ·rw [hb]
  refine zS ?_
  exact ⟨_, rfl, rfl, k0⟩
 rw [hb, Bool.not_false, Bool.true_and]
 cases hbi : (rtO x.op).binds with
 | true =>
  have g3 : Blk w4 b3 [S (rtO x.op).word, I (rtO x.op).kids, I (rtO x.op).of_, I (rtO x.op).ans, .bool true] 154 := by rw [← hbi]; exact g3
  refine zL g3 ?_
  refine Zl rfl g1 (v := S x.name) ?_
  refine Zc (Jj9 x.name hx) ?_
  rintro v w5 ⟨rfl, k5⟩
  refine zS ?_
  exact ⟨_, rfl, rfl, k0.trans k5⟩
 | false =>
  have g3 : Blk w4 b3 [S (rtO x.op).word, I (rtO x.op).kids, I (rtO x.op).of_, I (rtO x.op).ans, .bool false] 154 := by rw [← hbi]; exact g3
  refine zL g3 ?_
  refine Zl rfl g1 (v := I x.op) ?_
  refine zS ?_
  rw [Bool.false_or]
  refine r_if rfl (fun h2 => ?_) (fun h2 => ?_)
  ·rw [decide_eq_true h2, if_pos rfl]
   refine zL g1 ?_
   refine Zc (Jj9 x.name hx) ?_
   rintro v w5 ⟨rfl, k5⟩
   refine zS ?_
   exact ⟨_, rfl, rfl, k0.trans k5⟩
  ·rw [decide_eq_false h2, if_neg sI]
   refine zL g1 ?_
   exact ⟨_, rfl, rfl, k0⟩
end
section
variable {w : World}
def spanR (n : Nat) : Option (QT × List QN) → Int
 | some (_, r) => (n - r.length : Nat)
 | none => -1
def spanV (l : List QN) (at_ f above : Nat) : Int := spanR l.length (Jg5 f above (l.drop at_))
theorem sumQ_snoc (ts : List QT) (t : QT) : sumQ (ts ++ [t]) = sumQ ts + t.size := by
 simp [sumQ]
theorem suf_drop {l r : List QN} {k : Nat} (h : r <:+ l.drop k) (hk : k ≤ l.length) : r = l.drop (l.length - r.length) ∧ r.length ≤ l.length - k := by
 have h1 := List.suffix_iff_eq_drop.1 h
 have h2 := h.length_le
 rw [List.length_drop] at h2
 rw [List.drop_drop, List.length_drop, show k + (l.length - k - r.length) = l.length - r.length by omega] at h1
 exact ⟨h1, h2⟩
theorem Qo0 : ∀ (f above : Nat) {w : World} {l : List QN} {ad : Option Addr} {cap at_ : Nat}, f + above = 66 → Rows w ad cap l → at_ ≤ l.length →
  Ret Tryz.prog 111 [qV ad l.length cap, I at_, I above] w (fun v w' => v = I (spanV l at_ f above) ∧ Kp [] w w')
 | 0, above, w, l, ad, cap, at_, hf, hR, hat => by
  have hm := hR.max_
  have hcl := hR.len
  refine Ze Tryz.call111 Tryz.func111 ?_
  refine zS ?_
  refine Zx ?_
  intro b3 w1 e3 hu1
  have k1 : Kp [] w w1 := hu1.new oM
  have g3 : Blk w1 b3 [.slice ad l.length cap] 24 := hu1.blk
  refine zL g3 ?_
  refine Ja5 _ _ rfl rfl rfl (fun h => ?_) (fun h => ?_)
  ·refine zL g3 ?_
   exact ⟨_, rfl, rfl, k1⟩
  ·refine zL g3 ?_
   refine Ja5 _ _ rfl rfl rfl (fun h => ?_) (fun h => absurd (of_decide_eq_false h) oM)
   refine zL g3 ?_
   exact ⟨_, rfl, rfl, k1⟩
 | f + 1, above, w, l, ad, cap, at_, hf, hR, hat => by
  have hm := hR.max_
  have hcl := hR.len
  cases hd : l.drop at_ with
  | nil =>
   have hle := congrArg List.length hd
   rw [List.length_drop, List.length_nil] at hle
   have hv : spanV l at_ (f + 1) above = -1 := by unfold spanV; rw [hd]; rfl
   rw [hv]
   refine Ze Tryz.call111 Tryz.func111 ?_
   refine zS ?_
   refine Zx ?_
   intro b3 w1 e3 hu1
   have k1 : Kp [] w w1 := hu1.new oM
   have g3 : Blk w1 b3 [.slice ad l.length cap] 24 := hu1.blk
   refine zL g3 ?_
   refine Ja5 _ _ rfl rfl rfl (fun h => ?_) (fun h => absurd (of_decide_eq_false h) oM)
   refine zL g3 ?_
   exact ⟨_, rfl, rfl, k1⟩
  | cons x r =>
   have hx : l[at_]? = some x := by
    have := congrArg List.head? hd
    rwa [List.head?_drop] at this
   have hlt := (List.getElem?_eq_some_iff.1 hx).1
   have hr : l.drop (at_ + 1) = r := by
    have := congrArg List.tail hd
    rwa [List.tail_drop] at this
   obtain ⟨b, off, rfl, hbl, hcell⟩ := hR.cellN hx
   have hxW : ∀ {W : World}, Kp [] w W → ∀ j v, (qC x)[j]? = some v → W.cell? ⟨b, off + at_ * 4 + j, none⟩ = some v := fun hk j v hv => by
    rw [← hcell j v hv]; exact World.cell?_of_block (hk.at_ b hbl sI)
   have hxn := hR.name x (List.mem_of_getElem? hx)
   have hv : spanV l at_ (f + 1) above = spanR l.length (Jg5 (f + 1) above (x :: r)) := by unfold spanV; rw [hd]
   rw [Jt7] at hv
   refine Ze Tryz.call111 Tryz.func111 ?_
   refine zS ?_
   refine Zx ?_
   intro b3 w1 e3 hu1
   have k1 : Kp [] w w1 := hu1.new oM
   have g3 : Blk w1 b3 [.slice (some ⟨b, off, none⟩) l.length cap] 24 := hu1.blk
   clear hu1
   refine zL g3 ?_
   refine Ja5 _ _ rfl rfl rfl (fun h => absurd (of_decide_eq_true h) oM) (fun _ => ?_)
   refine zL g3 ?_
   refine Ja5 _ _ rfl rfl rfl (fun h => ?_) (fun h => ?_)
   ·have h : (64 : Int) < above := of_decide_eq_true h
    rw [if_pos oM] at hv
    rw [hv]
    refine zL g3 ?_
    exact ⟨_, rfl, rfl, k1⟩
   have h : ¬ (64 : Int) < above := of_decide_eq_false h
   rw [if_neg oM] at hv
   refine zL g3 ?_
   refine Zm (vs := qC x) rfl (fun j v hv => by rw [Ja2]; exact hxW k1 j v hv) ?_
   refine Zc (own30_ret x hxn) ?_
   rintro v w2 ⟨rfl, k2⟩
   have k0 := k1.trans k2
   have g3 := k2.b0 g3
   cases ho : ownQ x.op x.num x.name with
   | false =>
    rw [if_pos ho] at hv
    rw [hv]
    refine zS ?_
    exact ⟨_, rfl, rfl, k0⟩
   | true =>
   rw [if_neg (by rw [ho]; simp)] at hv
   have hop : 1 ≤ x.op ∧ x.op ≤ 26 := by
    by_cases h : 1 ≤ x.op ∧ x.op ≤ 26
    ·exact h
    ·rw [ownQ_out h] at ho; cases ho
   refine zL g3 ?_
   refine Zo (v := I x.op) rfl (by rw [Ja2]; exact hxW k0 0 _ rfl) ?_
   refine Zc (Jl0 x.op) ?_
   rintro v w3 ⟨rfl, k3⟩
   have k0 := k0.trans k3
   have g3 := k3.b0 g3
   refine zS ?_
   refine Za ?_
   intro b7 w4 e7 hu4
   refine Zs (b := b7) (cs := rtC (rtO x.op)) rfl hu4.blk lR rfl (by simp [Value.oneCell', rtC]) ?_
   intro w5 hu5
   have k35 : Kp [] w3 w5 := (hu4.new oM).since (hu5.kp [b7] (.inl sI)) (by simp; omega)
   have g7 : Blk w5 b7 [S (rtO x.op).word, I (Jc7 x.op.toNat : Nat), I (rtO x.op).of_, I (rtO x.op).ans, .bool (rtO x.op).binds] 154 := by
    rw [← (Jr5 hop.1 hop.2).1]; exact hu5.blk
   have g3 := k35.b0 g3
   have k0 := k0.trans k35
   clear hu4 hu5 k35
   refine zS ?_
   refine Jb4 (α := Nat × Nat) [1, 2, 3, 7, 9, 10] (fun y => [I at_, I above, ptr b3, ptr b7, I y.2, I y.1]) (fun y W => y.1 ≤ Jc7 x.op.toNat ∧ Kp [] w5 W ∧ ∃ ts, Ji8 f (above + 1) y.1 r = some (ts, l.drop y.2) ∧ y.2 ≤ l.length ∧ at_ + 1 + sumQ ts = y.2) (fun y => Jc7 x.op.toNat - y.1) (0, at_ + 1) rfl ⟨Nat.zero_le _, Kp.refl _ _, [], by rw [Ji8, hr], oM, by simp [sumQ]⟩ ?_
   rintro ⟨i, n⟩ e W ⟨hi, kW, ts, hK, hn, hsum⟩
   dsimp only at hi hK hn hsum ⊢
   have g3 := kW.b0 g3
   have g7 := kW.b0 g7
   have k0 := k0.trans kW
   have hkl := Jk7 x.op.toNat
   refine zL g7 ?_
   refine r_if rfl (fun hc => ?_) (fun hc => ?_)
   ·refine zS ?_
    refine Zm (vs := [.slice (some ⟨b, off, none⟩) l.length cap]) rfl g3.cs ?_
    refine zS ?_
    refine Zc (Qo0 f (above + 1) oM (hR.kp k0 sI) hn) ?_
    rintro v w6 ⟨rfl, k6⟩
    rw [show spanV l n f (above + 1) = spanR l.length (Jg5 f (above + 1) (l.drop n)) from rfl]
    cases hg : Jg5 f (above + 1) (l.drop n) with
    | none =>
     have hnone := Jz8 i (Jc7 x.op.toNat - i - 1) r (l.drop n) ts hK hg
     rw [show i + 1 + (Jc7 x.op.toNat - i - 1) = Jc7 x.op.toNat by omega] at hnone
     rw [hnone] at hv
     rw [hv]
     refine zS ?_
     exact ⟨_, rfl, rfl, k0.trans k6⟩
    | some p =>
     obtain ⟨t, r2⟩ := p
     obtain ⟨h1, h2⟩ := suf_drop (Qh7 _ _ _ _ _ hg) hn
     have h3 := Qi9 _ _ _ _ _ hg
     rw [List.length_drop] at h3
     have hK2 := Jz3 i r (l.drop n) r2 ts t hK hg
     rw [h1] at hK2
     rw [show spanR l.length (some (t, r2)) = ((l.length - r2.length : Nat) : Int) from rfl]
     refine zS ?_
     exact ⟨(i + 1, l.length - r2.length), rfl, ⟨by dsimp only; omega, kW.trans k6, ts ++ [t], hK2, by dsimp only; omega, by rw [sumQ_snoc]; dsimp only; omega⟩, by dsimp only; omega⟩
   ·obtain rfl : i = Jc7 x.op.toNat := oM
    rw [hK] at hv
    dsimp only at hv
    refine zL g3 ?_
    refine Zo (v := I x.size) rfl (by rw [Ja2]; exact hxW k0 1 _ rfl) ?_
    refine zS ?_
    refine Jn8 rfl (fun hne => ?_) (fun heq => ?_)
    ·rw [if_neg oM] at hv
     rw [hv]
     refine zS ?_
     exact ⟨_, rfl, rfl, k0⟩
    ·rw [if_pos oM, show spanR l.length (some (mkT x.op x.num x.name ts, l.drop n)) = ((l.length - (l.drop n).length : Nat) : Int) from rfl, List.length_drop, show l.length - (l.length - n) = n by omega] at hv
     rw [hv]
     refine zS ?_
     exact ⟨_, rfl, rfl, k0⟩
theorem may_span {l : List QN} (h : 0 < l.length) : decide (spanV l 0 66 0 = (l.length : Int)) = (Jh1 l).isSome := by
 unfold spanV Jh1
 rw [List.drop_zero]
 cases hg : Jg5 66 0 l with
 | none => exact decide_eq_false (by rw [show spanR l.length none = -1 from rfl]; omega)
 | some p =>
  obtain ⟨t, r⟩ := p
  rw [show spanR l.length (some (t, r)) = ((l.length - r.length : Nat) : Int) from rfl]
  cases r with
  | nil => exact decide_eq_true sI
  | cons y r => exact decide_eq_false (by rw [List.length_cons]; omega)
theorem Qe8 {l : List QN} {ad : Option Addr} {cap : Nat} (hR : Rows w ad cap l) : Ret Tryz.prog 65 [qV ad l.length cap] w (fun v w' => v = .bool (Jh1 l).isSome ∧ Kp [] w w') := by
 have hm := hR.max_
 have hcl := hR.len
 refine Ze Tryz.call65 Tryz.func65 ?_
 refine zS ?_
 refine Zx ?_
 intro b w1 e1 hu1
 have k1 : Kp [] w w1 := hu1.new oM
 have g1 : Blk w1 b [.slice ad l.length cap] 24 := hu1.blk
 clear hu1
 refine zS ?_
 refine Ja9 ?_
 refine Jc9 Ja0 kR ?_
 by_cases h : (0 : Int) < l.length
 ·refine zN g1 ?_
  rw [decide_eq_true h]
  refine zN g1 ?_
  refine Zw (vs := [.slice ad l.length cap]) rfl (fun w' h' j v hv => by rw [Nat.zero_add]; exact (h'.b0 g1).cell hv) ?_
  refine Zk (I (spanV l 0 66 0)) (fun w1 hk => (Qo0 (at_ := 0) 66 0 rfl (hR.kp (k1.trans hk) sI) (Nat.zero_le _)).mono fun v w' h => ⟨h.1, hk.trans h.2⟩) Tryz.call111 ?_
  refine zN g1 ?_
  intro w' hs
  refine zS ?_
  exact ⟨_, rfl, by rw [← may_span oM], k1.trans hs⟩
 ·have : l = [] := List.eq_nil_of_length_eq_zero oM
  subst this
  refine zN g1 ?_
  intro w' hs
  refine zS ?_
  exact ⟨_, rfl, rfl, k1.trans hs⟩
theorem kid30_ret {l : List QN} {ad : Option Addr} {cap at_ k sz : Nat} (hR : Rows w ad cap l) (hat : at_ ≤ 1048576) (hk : k ≤ 1) (hx : 0 < k → ∃ x, l[at_ + 1]? = some x ∧ x.size = (sz : Int)) (hsz : sz ≤ 1048576) :
  Ret Tryz.prog 112 [qV ad l.length cap, I at_, I k] w (fun v w' => v = I (at_ + 1 + (if k = 0 then 0 else sz) : Nat) ∧ Kp [] w w') := by
 have hm := hR.max_
 have hcl := hR.len
 refine Ze Tryz.call112 Tryz.func112 ?_
 refine zS ?_
 refine Zx ?_
 intro b3 w1 e3 hu1
 have k1 : Kp [] w w1 := hu1.new oM
 have g3 : Blk w1 b3 [.slice ad l.length cap] 24 := hu1.blk
 clear hu1
 refine zS ?_
 refine Jb4 (α := Nat) [1, 2, 3, 7, 8] (fun i => [I at_, I k, ptr b3, I (at_ + 1 + (if i = 0 then 0 else sz) : Nat), I i]) (fun i W => i ≤ k ∧ W = w1) (fun i => k - i) 0 rfl ⟨Nat.zero_le _, rfl⟩ ?_
 rintro i e W ⟨hi, rfl⟩
 refine zS ?_
 refine r_if rfl (fun hc => ?_) (fun hc => ?_)
 ·obtain rfl : i = 0 := oM
  obtain ⟨x, hx, hxs⟩ := hx oM
  obtain ⟨b, off, rfl, hbl, hcell⟩ := (hR.kp k1 sI).cellN hx
  have hlt := (List.getElem?_eq_some_iff.1 hx).1
  rw [if_pos rfl]
  refine zL g3 ?_
  refine Zo (v := I sz) rfl (by rw [Ja2, ← hxs]; exact hcell 1 _ rfl) ?_
  refine zS ?_
  exact ⟨1, rfl, ⟨oM, rfl⟩, oM⟩
 ·obtain rfl : i = k := oM
  refine zS ?_
  exact ⟨_, rfl, rfl, k1⟩
end
end Go.Vc
namespace Go.Vc
def QT.hd : QT → QN
 | .n0 o m s => ⟨o, 1, m, s⟩
 | .n1 o m s a => ⟨o, 1 + a.size, m, s⟩
 | .n2 o m s a b => ⟨o, 1 + a.size + b.size, m, s⟩
def QT.subs : QT → List QT
 | .n0 .. => []
 | .n1 _ _ _ a => [a]
 | .n2 _ _ _ a b => [a, b]
theorem QT.hd_op (t : QT) : t.hd.op = t.op := by cases t <;> rfl
theorem QT.hd_size (t : QT) : t.hd.size = (t.size : Int) := by cases t <;> simp [QT.hd, QT.size]
theorem QT.rows_hd (t : QT) : ∃ r, t.rows = t.hd :: r := by cases t <;> exact ⟨_, rfl⟩
def SubT (l : List QN) (at_ : Nat) (t : QT) : Prop := ∃ r, l.drop at_ = t.rows ++ r
variable {l : List QN} {at_ : Nat} {t : QT}
theorem SubT.head (h : SubT l at_ t) : l[at_]? = some t.hd := by
 obtain ⟨r, h⟩ := h
 obtain ⟨q, hq⟩ := t.rows_hd
 rw [hq, List.cons_append] at h
 have := congrArg List.head? h
 rwa [List.head?_drop] at this
theorem SubT.len (h : SubT l at_ t) : at_ + t.size ≤ l.length := by
 obtain ⟨r, h⟩ := h
 have h1 := congrArg List.length h
 rw [List.length_drop, List.length_append, QT.rows_len] at h1
 have := t.size_pos
 omega
def Jl5 (at_ : Nat) (t : QT) (i : Nat) : Nat := at_ + 1 + (if i = 0 then 0 else (t.subs.head?.map QT.size).getD 0)
theorem SubT.kid (h : SubT l at_ t) {i : Nat} {a : QT} (ha : t.subs[i]? = some a) : SubT l (Jl5 at_ t i) a := by
 obtain ⟨r, h⟩ := h
 unfold Jl5
 cases t with
 | n0 o m s => simp [QT.subs] at ha
 | n1 o m s b =>
  have : i = 0 := by
   rcases i with _ | i
   ·rfl
   ·simp [QT.subs] at ha
  subst this
  simp [QT.subs] at ha
  subst ha
  refine ⟨r, ?_⟩
  rw [if_pos rfl, Nat.add_zero, ← List.tail_drop, h]; rfl
 | n2 o m s b c =>
  have h1 : l.drop (at_ + 1) = b.rows ++ (c.rows ++ r) := by
   rw [← List.tail_drop, h]; simp [QT.rows]
  match i, ha with
  | 0, ha =>
   simp [QT.subs] at ha
   subst ha
   exact ⟨_, h1⟩
  | 1, ha =>
   simp [QT.subs] at ha
   subst ha
   refine ⟨r, ?_⟩
   simp only [QT.subs, List.head?_cons, Option.map_some, Option.getD_some, Nat.one_ne_zero, if_false]
   rw [← List.drop_drop, h1, ← QT.rows_len, List.drop_left]
  | n + 2, ha => simp [QT.subs] at ha
theorem QT.subs_size {a : QT} (ha : a ∈ t.subs) : a.size < t.size := by
 cases t with
 | n0 => simp [QT.subs] at ha
 | n1 o m s b => simp [QT.subs] at ha; subst ha; simp [QT.size]
 | n2 o m s b c => simp [QT.subs] at ha; rcases ha with rfl | rfl <;> simp [QT.size] <;> omega
theorem QT.subs_depth {a : QT} (ha : a ∈ t.subs) : a.depth + 1 ≤ t.depth := by
 cases t with
 | n0 => simp [QT.subs] at ha
 | n1 o m s b => simp [QT.subs] at ha; subst ha; simp [QT.depth]; omega
 | n2 o m s b c => simp [QT.subs] at ha; rcases ha with rfl | rfl <;> simp [QT.depth] <;> omega
theorem Je7 (h : Jd2 t) {a : QT} (ha : a ∈ t.subs) : Jd2 a := by
 cases t with
 | n0 => simp [QT.subs] at ha
 | n1 o m s b => simp [QT.subs] at ha; subst ha; exact h.2.1
 | n2 o m s b c => simp [QT.subs] at ha; rcases ha with rfl | rfl <;> first | exact h.2.1 | exact h.2.2.1
theorem Jm3 (h : Jd2 t) : 1 ≤ t.op ∧ t.op ≤ 26 ∧ t.subs.length = Jc7 t.op.toNat ∧ (Jb6 t.op.toNat = true ↔ 22 ≤ t.op) := by
 cases t with
 | n0 o m s =>
  show 1 ≤ o ∧ o ≤ 26 ∧ 0 = Jc7 o.toNat ∧ (Jb6 o.toNat = true ↔ 22 ≤ o)
  rcases h with ⟨rfl, _⟩ | ⟨rfl, _⟩ | ⟨rfl, _⟩ <;> decide
 | n1 o m s a =>
  show 1 ≤ o ∧ o ≤ 26 ∧ 1 = Jc7 o.toNat ∧ (Jb6 o.toNat = true ↔ 22 ≤ o)
  rcases h with ⟨_, _, ⟨rfl | rfl | rfl | rfl | rfl, _⟩ | ⟨rfl | rfl | rfl | rfl | rfl, _⟩⟩ <;> decide
 | n2 o m s a b =>
  show 1 ≤ o ∧ o ≤ 26 ∧ 2 = Jc7 o.toNat ∧ (Jb6 o.toNat = true ↔ 22 ≤ o)
  obtain ⟨_, _, _, _, rfl | rfl | rfl | rfl | rfl | rfl | rfl | rfl | rfl | rfl | rfl | rfl | rfl⟩ := h <;> decide
theorem named_kids (h : Jd2 t) (names : List (List UInt8)) : Jd9 t names = if t.op = 2 then names.contains t.hd.name else t.subs.all fun a => Jd9 a (if Jb6 t.op.toNat then names ++ [t.hd.name] else names) := by
 have hg := Jm3 h
 cases t with
 | n0 o m s =>
  rcases h with ⟨rfl, _⟩ | ⟨rfl, _⟩ | ⟨rfl, _⟩ <;> rfl
 | n1 o m s a =>
  have h2 : o ≠ 2 := by
   rcases h with ⟨_, _, ⟨rfl | rfl | rfl | rfl | rfl, _⟩ | ⟨rfl | rfl | rfl | rfl | rfl, _⟩⟩ <;> decide
  have hb : Jb6 o.toNat = true ↔ 22 ≤ o := hg.2.2.2
  show Jd9 a (if 22 ≤ o then names ++ [s] else names) = if o = 2 then names.contains s else (Jd9 a (if Jb6 o.toNat then names ++ [s] else names) && true)
  rw [if_neg h2, Bool.and_true]
  by_cases h : (22 : Int) ≤ o
  ·rw [if_pos h, if_pos (hb.2 h)]
  ·rw [if_neg h, if_neg (fun q => h (hb.1 q))]
 | n2 o m s a b =>
  have h2 : o ≠ 2 ∧ ¬ (22 : Int) ≤ o := by
   obtain ⟨_, _, _, _, rfl | rfl | rfl | rfl | rfl | rfl | rfl | rfl | rfl | rfl | rfl | rfl | rfl⟩ := h <;> decide
  have hb : Jb6 o.toNat = true ↔ 22 ≤ o := hg.2.2.2
  show (Jd9 a names && Jd9 b names) = if o = 2 then names.contains s else (Jd9 a (if Jb6 o.toNat then names ++ [s] else names) && (Jd9 b (if Jb6 o.toNat then names ++ [s] else names) && true))
  rw [if_neg h2.1, if_neg (fun q => h2.2 (hb.1 q)), Bool.and_true]
theorem Qn3 (t : QT) : Jd7 t = t.subs.all fun a => decide (Jb2 a.op.toNat = ofO t.op.toNat) && Jd7 a := by
 cases t with
 | n0 => rfl
 | n1 o m s a =>
  show _ = ((decide (Jb2 a.op.toNat = ofO o.toNat) && Jd7 a) && true)
  rw [Bool.and_true]; rfl
 | n2 o m s a b =>
  show _ = ((decide (Jb2 a.op.toNat = ofO o.toNat) && Jd7 a) && ((decide (Jb2 b.op.toNat = ofO o.toNat) && Jd7 b) && true))
  rw [Bool.and_true]; rfl
def Js3 (op : Int) : Bool := decide (op = 1 ∨ op = 2 ∨ op = 3 ∨ op = 8 ∨ op = 9 ∨ op = 10 ∨ op = 20 ∨ op = 21)
theorem brk_bare {a : QT} (h : Jd2 a) (s : List UInt8) : brk a s = if Js3 a.op then s else 40 :: (s ++ [41]) := by
 have key : ∀ k : Nat, k < 27 → 1 ≤ k → ((Jm0 k = true ∨ Jc7 k = 0) ↔ Js3 k = true) := dE
 have hg := Jm3 h
 obtain ⟨k, hk⟩ : ∃ k : Nat, a.op = k := ⟨a.op.toNat, oM⟩
 have := key k oM oM
 unfold brk
 rw [hk, show ((k : Int)).toNat = k by omega]
 by_cases h : Js3 k = true
 ·rw [if_pos h, if_pos (this.2 h)]
 ·rw [if_neg h, if_neg (fun q => h (this.1 q))]
theorem name_24 {s : List UInt8} (h : Jc5 s = true) : s.length ≤ 24 := by
 unfold Jc5 at h
 simp only [Bool.and_eq_true, decide_eq_true_eq] at h
 exact h.1.1.1.1.2
theorem told_1 (h : Jd2 t) (ho : t.op = 1) : ∃ n : Nat, t.hd.num = n ∧ n ≤ 9223372036854775807 ∧ Jc8 t = Lib.decDigits n := by
 cases t with
 | n0 o m s =>
  have ho : o = 1 := ho
  subst ho
  rcases h with ⟨_, h1, h2, _⟩ | ⟨h, _⟩ | ⟨h, _⟩
  ·exact ⟨m.toNat, by show m = _; omega, oM, rfl⟩
  ·omega
  ·omega
 | n1 o m s a => have ho : o = 1 := ho; have := h.2.2; omega
 | n2 o m s a b => have ho : o = 1 := ho; have := h.2.2.2.2; omega
theorem told_2 (h : Jd2 t) (ho : t.op = 2) : Jc8 t = t.hd.name := by
 cases t with
 | n0 o m s => have ho : o = 2 := ho; subst ho; rfl
 | n1 o m s a => have ho : o = 2 := ho; have := h.2.2; omega
 | n2 o m s a b => have ho : o = 2 := ho; have := h.2.2.2.2; omega
theorem told_3 (h : Jd2 t) (ho : t.op = 3) : Jc8 t = Ja3 t.op.toNat := by
 cases t with
 | n0 o m s => have ho : o = 3 := ho; subst ho; rfl
 | n1 o m s a => have ho : o = 3 := ho; have := h.2.2; omega
 | n2 o m s a b => have ho : o = 3 := ho; have := h.2.2.2.2; omega
theorem no_n0 {o m : Int} {s : List UInt8} (h : Jd2 (.n0 o m s)) : o ≤ 3 := by
 rcases h with ⟨h, _⟩ | ⟨h, _⟩ | ⟨h, _⟩ <;> omega
theorem no_n1 {o m : Int} {s : List UInt8} {a : QT} (h : Jd2 (.n1 o m s a)) : o = 4 ∨ o = 8 ∨ o = 9 ∨ o = 10 ∨ o = 17 ∨ 22 ≤ o := by have := h.2.2; omega
theorem Qf3 {o m : Int} {s : List UInt8} {a b : QT} (h : Jd2 (.n2 o m s a b)) : o = 5 ∨ o = 6 ∨ o = 7 ∨ o = 11 ∨ o = 12 ∨ o = 13 ∨ o = 14 ∨ o = 15 ∨ o = 16 ∨ o = 18 ∨ o = 19 ∨ o = 20 ∨ o = 21 := h.2.2.2.2
theorem told_4 (h : Jd2 t) (ho : t.op = 4) : ∃ a, t.subs = [a] ∧ Jc8 t = Ja3 t.op.toNat ++ brk a (Jc8 a) := by
 cases t with
 | n0 o m s => have ho : o = 4 := ho; have := no_n0 h; omega
 | n1 o m s a => have ho : o = 4 := ho; subst ho; exact ⟨a, rfl, rfl⟩
 | n2 o m s a b => have ho : o = 4 := ho; have := Qf3 h; omega
theorem told_17 (h : Jd2 t) (ho : t.op = 17) : ∃ a, t.subs = [a] ∧ Jc8 t = Ja3 t.op.toNat ++ [32] ++ brk a (Jc8 a) := by
 cases t with
 | n0 o m s => have ho : o = 17 := ho; have := no_n0 h; omega
 | n1 o m s a => have ho : o = 17 := ho; subst ho; exact ⟨a, rfl, rfl⟩
 | n2 o m s a b => have ho : o = 17 := ho; have := Qf3 h; omega
theorem told_b (h : Jd2 t) (ho : 22 ≤ t.op) : ∃ a, t.subs = [a] ∧ t.hd.name.length ≤ 24 ∧ Jc8 t = Ja3 t.op.toNat ++ [32] ++ t.hd.name ++ [58, 32] ++ Jc8 a := by
 cases t with
 | n0 o m s => have ho : 22 ≤ o := ho; have := no_n0 h; omega
 | n1 o m s a =>
  have ho : 22 ≤ o := ho
  rcases h with ⟨_, _, h | ⟨h, hq⟩⟩
  ·omega
  ·rcases h with rfl | rfl | rfl | rfl | rfl <;> exact ⟨a, rfl, name_24 hq, rfl⟩
 | n2 o m s a b => have ho : 22 ≤ o := ho; have := Qf3 h; omega
theorem told_c1 (h : Jd2 t) (ho : t.op = 8 ∨ t.op = 9 ∨ t.op = 10) : ∃ a, t.subs = [a] ∧ Jc8 t = Ja3 t.op.toNat ++ [40] ++ Jc8 a ++ [41] := by
 cases t with
 | n0 o m s => have ho : o = 8 ∨ o = 9 ∨ o = 10 := ho; have := no_n0 h; omega
 | n1 o m s a => rcases ho with (ho : o = _) | (ho : o = _) | (ho : o = _) <;> subst ho <;> exact ⟨a, rfl, rfl⟩
 | n2 o m s a b => have ho : o = 8 ∨ o = 9 ∨ o = 10 := ho; have := Qf3 h; omega
theorem told_c2 (h : Jd2 t) (ho : t.op = 20 ∨ t.op = 21) : ∃ a b, t.subs = [a, b] ∧ Jc8 t = Ja3 t.op.toNat ++ [40] ++ Jc8 a ++ [44, 32] ++ Jc8 b ++ [41] := by
 cases t with
 | n0 o m s => have ho : o = 20 ∨ o = 21 := ho; have := no_n0 h; omega
 | n1 o m s a => have ho : o = 20 ∨ o = 21 := ho; have := no_n1 h; omega
 | n2 o m s a b => rcases ho with (ho : o = _) | (ho : o = _) <;> subst ho <;> exact ⟨a, b, rfl, rfl⟩
theorem told_n (h : Jd2 t) (h1 : t.op ≠ 17) (h2 : 4 < t.op) (h3 : t.op < 22) (h4 : Js3 t.op = false) : ∃ a b, t.subs = [a, b] ∧ Jc8 t = brk a (Jc8 a) ++ [32] ++ Ja3 t.op.toNat ++ [32] ++ brk b (Jc8 b) := by
 have h4 := of_decide_eq_false h4
 cases t with
 | n0 o m s => have h2 : 4 < o := h2; have := no_n0 h; omega
 | n1 o m s a =>
  have h1 : o ≠ 17 := h1
  have h2 : 4 < o := h2
  have h3 : o < 22 := h3
  have h4 : ¬ (o = 1 ∨ o = 2 ∨ o = 3 ∨ o = 8 ∨ o = 9 ∨ o = 10 ∨ o = 20 ∨ o = 21) := h4
  have := no_n1 h; omega
 | n2 o m s a b =>
  have h4 : ¬ (o = 1 ∨ o = 2 ∨ o = 3 ∨ o = 8 ∨ o = 9 ∨ o = 10 ∨ o = 20 ∨ o = 21) := h4
  rcases Qf3 h with rfl | rfl | rfl | rfl | rfl | rfl | rfl | rfl | rfl | rfl | rfl | rfl | rfl <;> first | exact ⟨a, b, rfl, rfl⟩ | omega
end Go.Vc

