/- Parts of a proof. -/
import Derived.Test.YtkgngbpkiklckaaGreatDoorQClQExact31
set_option maxHeartbeats 12800000
namespace Go.Vc
open Go
variable {a c : List UInt8}
def rn (a c n : List UInt8) : List UInt8 := if n = a then c else n
def rnN (a c : List UInt8) (x : QN) : QN := if x.name = a then { x with name := c } else x
theorem rnN_eq (x : QN) : rnN a c x = ⟨x.op, x.size, x.num, rn a c x.name⟩ := by
 unfold rnN rn; split <;> rfl
end Go.Vc

namespace Go.Vc
open Go Go.Proofs
set_option maxRecDepth 20000
section
variable {w : World}
theorem Ql6 (a b : QN) : Jr6 (qC a) (qC b) = decide (a = b) := by
 obtain ⟨a1, a2, a3, a4⟩ := a
 obtain ⟨b1, b2, b3, b4⟩ := b
 have hS : eqVal (S a4) (S b4) = decide (a4 = b4) := by
  unfold eqVal
  simp only [ByteArray.toList_eq]
  rw [Bool.eq_iff_iff, beq_iff_eq, decide_eq_true_eq]
 simp only [qC, Jr6, QN.mk.injEq, hS]
 simp only [eqVal, beq_iff_eq, decide_eq_true_eq]
 by_cases h1 : a1 = b1 <;> by_cases h2 : a2 = b2 <;> by_cases h3 : a3 = b3 <;> by_cases h4 : a4 = b4 <;> simp [h1, h2, h3, h4]
theorem Rows.cellN {ad : Option Addr} {cap : Nat} {l : List QN} (h : Rows w ad cap l) {i : Nat} {x : QN} (hx : l[i]? = some x) : ∃ b off, ad = some ⟨b, off, none⟩ ∧ b < w.heap.size ∧ ∀ j v, (qC x)[j]? = some v → w.cell? ⟨b, off + i * 4 + j, none⟩ = some v := by
 have hi := (List.getElem?_eq_some_iff.1 hx).1
 have hfl : (l.flatMap qC).length = l.length * 4 := by
  clear h hx hi
  induction l with
  | nil => rfl
  | cons y r ih => rw [List.flatMap_cons, List.length_append, ih, List.length_cons]; simp [qC]; omega
 obtain ⟨b, off, rfl, hbl, hcell⟩ := h.read.at_ (by rw [hfl]; omega)
 exact ⟨b, off, rfl, hbl, fun j v hv => by rw [Nat.add_assoc]; exact hcell _ _ (Jm9 (f := qC) (m := 4) (fun _ => rfl) hx hv)⟩
theorem Jk3 {l m : List QN} {ad bd : Option Addr} {cap cap' : Nat} (hR : Rows w ad cap l) (hM : Rows w bd cap' m) :
  Ret Tryz.prog 15 [.agg ⟨[.slice ad l.length cap]⟩, .agg ⟨[.slice bd m.length cap']⟩] w (fun v w' => v = .bool (decide (l = m)) ∧ Kp [] w w') := by
 have hm := hR.max_
 have hcl := hR.cap_
 have hm' := hM.max_
 have hcl' := hM.cap_
 refine Ze Tryz.call15 Tryz.func15 ?_
 refine zS ?_
 refine Zx ?_
 intro b w1 hb hu1
 have k1 : Kp [] w w1 := hu1.new oM
 refine Zx ?_
 intro c w2 hc hu2
 have k2 : Kp [] w1 w2 := hu2.new oM
 have hb2 : Blk w2 b [.slice ad l.length cap] 24 := k2.b0 hu1.blk
 have hc2 : Blk w2 c [.slice bd m.length cap'] 24 := hu2.blk
 have k02 := k1.trans k2
 clear hu1 hu2 k1 k2
 refine zL hb2 ?_
 refine zL hc2 ?_
 refine Jn8 rfl (fun hne => ?_) (fun heq => ?_)
 ·refine zS ?_
  exact ⟨_, rfl, by rw [decide_eq_false]; rintro rfl; exact hne rfl, k02⟩
 have hlen : l.length = m.length := oM
 refine zS ?_
 refine Jb4 (α := Nat) [2, 3, 5] (fun i => [ptr b, ptr c, I i]) (fun i W => i ≤ l.length ∧ Kp [] w2 W ∧ l.take i = m.take i) (fun i => l.length - i) 0 rfl ⟨Nat.zero_le _, Kp.refl _ _, rfl⟩ ?_
 rintro i e W ⟨hi, kW, hn⟩
 have hbW := kW.b0 hb2
 have hcW := kW.b0 hc2
 refine zL hbW ?_
 refine r_if rfl (fun hc => ?_) (fun hc => ?_)
 ·have hi2 : i < l.length := oM
  obtain ⟨x, hx⟩ : ∃ x, l[i]? = some x := ⟨_, List.getElem?_eq_getElem hi2⟩
  obtain ⟨y, hy⟩ : ∃ y, m[i]? = some y := ⟨_, List.getElem?_eq_getElem oM⟩
  obtain ⟨b0, o0, rfl, lt0, cell0⟩ := (hR.kp (k02.trans kW) sI).cellN hx
  obtain ⟨b1, o1, rfl, lt1, cell1⟩ := (hM.kp (k02.trans kW) sI).cellN hy
  have htl : l.take (i + 1) = l.take i ++ [x] := by rw [List.take_add_one, hx]; rfl
  have htm : m.take (i + 1) = m.take i ++ [y] := by rw [List.take_add_one, hy]; rfl
  refine zS ?_
  refine Ja9 ?_
  refine Jd8 (α := Unit) [2, 3, 5, 30] (fun _ => [ptr b, ptr c, I i, .bool (!decide (x = y))]) (fun _ W' => Kp [] W W') ?_ ?_
  ·refine Jc9 Ja0 kR ?_
   refine zN hbW ?_
   refine q_loadA (vs := qC x) rfl (fun w' h' j v hv => by
    rw [Ja2, ← cell0 j v hv]
    exact World.cell?_of_block (h'.at_ b0 lt0 sI)) rfl rfl rfl rfl rfl rfl ?_
   refine zN hcW ?_
   refine q_loadA (vs := qC y) rfl (fun w' h' j v hv => by
    rw [Ja2, ← cell1 j v hv]
    exact World.cell?_of_block (h'.at_ b1 lt1 sI)) rfl rfl rfl rfl rfl rfl ?_
   refine q_neqX (qC x) (qC y) rfl rfl rfl kR kR rfl rfl rfl rfl ?_
   rw [Ql6]
   refine zQ ?_
   intro w' hs
   exact ⟨(), rfl, hs⟩
  rintro _ e2 w3 k3
  refine Jn8 rfl (fun h => ?_) (fun h => ?_)
  ·refine zS ?_
   refine ⟨_, rfl, ?_, (k02.trans kW).trans k3⟩
   rw [decide_eq_false]
   rintro rfl
   rw [hx] at hy
   exact h (Option.some.inj hy)
  ·refine zS ?_
   exact ⟨i + 1, rfl, ⟨oM, kW.trans k3, by rw [htl, htm, hn, h]⟩, oM⟩
 ·have : i = l.length := oM
  subst this
  rw [List.take_length, hlen, List.take_length] at hn
  refine zS ?_
  exact ⟨_, rfl, by rw [decide_eq_true hn], k02.trans kW⟩
end
section
variable {w : World}
def mkN (i : Nat) : QN := ⟨0, -100 - (i : Int), 0, []⟩
def Jg4 (i : Nat) : List QN := (List.range i).map mkN
theorem marksN_succ (i : Nat) : Jg4 (i + 1) = Jg4 i ++ [mkN i] := by unfold Jg4; rw [List.range_succ, List.map_append]; rfl
theorem Jg8 (i : Nat) : (Jg4 i).length = i := by simp [Jg4]
theorem Qm5 {l : List QN} : ∀ v ∈ l.flatMap qC, v.oneCell' = true := fun v hv => by
 obtain ⟨x, _, hx⟩ := List.mem_flatMap.1 hv
 simp [qC] at hx
 rcases hx with rfl | rfl | rfl | rfl <;> rfl
theorem OwnS.rowsP {ad : Option Addr} {cap : Nat} {l m : List QN} (h : OwnS w 81 4 ad (l.length + m.length) cap ((l ++ m).flatMap qC)) (hl : l.length ≤ 1048576) (hnm : ∀ x ∈ l, x.name.length ≤ 9223372036854775806) (hnu : ∀ x ∈ l, x.num ≤ 9223372036854775807) : Rows w ad cap l := by
 have hcap : cap ≤ maxLen := by
  obtain ⟨_, h⟩ := h
  cases ad with
  | none => obtain ⟨_, h⟩ := h; rw [h]; exact Nat.zero_le _
  | some a => obtain ⟨_, _, _, h, _⟩ := h; exact h
 simp only [maxLen] at hcap
 have hle := h.le_cap
 refine ⟨?_, oM, hcap, hl, hnm, hnu⟩
 have hr := h.readN
 rw [List.flatMap_append] at hr
 cases ad with
 | none =>
  have hr : l.flatMap qC ++ m.flatMap qC = [] := hr
  exact (List.append_eq_nil_iff.1 hr).1
 | some a =>
  intro i v hv
  exact hr i v (by rw [List.getElem?_append_left (List.getElem?_eq_some_iff.1 hv).1]; exact hv)
theorem lent_ret {l : List QN} {ad : Option Addr} {cap : Nat} (hR : Rows w ad cap l) :
  Ret Tryz.prog 12 [.agg ⟨[.slice ad l.length cap]⟩] w (fun v w' => ∃ ad' cap', v = .agg ⟨[.slice ad' l.length cap']⟩ ∧ OwnS w' 81 4 ad' (l.length + 70) cap' ((l ++ Jg4 70).flatMap qC) ∧ Kp [] w w' ∧ ∀ b, b ∈ Ja1 ad' → w.heap.size ≤ b) := by
 have hm := hR.max_
 have hcl := hR.cap_
 have hle := hR.len
 have hlen := Jf5 l
 refine Zd Tryz.call12 Tryz.func12 ?_
 refine zS ?_
 refine Zx ?_
 intro b1 w1 e1 hu1
 have k1 : Kp [] w w1 := hu1.new oM
 refine Za ?_
 intro b2 w2 e2 hu2
 have k2 : Kp [] w1 w2 := hu2.new oM
 have g1 : Blk w2 b1 [.slice ad l.length cap] 24 := k2.b0 hu1.blk
 have g2 : Blk w2 b2 [.slice none 0 0] 24 := hu2.blk
 have z12 : b1 ≠ b2 := by have := hu1.lt; omega
 have k02 := k1.trans k2
 have y1 := k1.size
 have n2 : w.heap.size ≤ b2 := oM
 clear hu1 hu2
 refine zS ?_
 refine Jf0 rfl rfl rfl rfl ?_
 intro b w3 hb hu3
 have k3 : Kp [] w2 w3 := hu3.new oM
 have ho3 : OwnS w3 81 4 (some ⟨b, 0, none⟩) 0 0 [] := ⟨rfl, rfl, rfl, lR, by simp [maxLen], [], hu3.blk, rfl⟩
 have g1 := k3.b0 g1
 have g2 := k3.b0 g2
 have k03 := k02.trans k3
 have y2 := k02.size
 clear hu3
 refine zL g1 ?_
 refine Jg7 (k := 0) (l.flatMap qC) rfl rfl ho3 (hR.read.kp k03 sI) rfl rfl rfl dE hlen Qm5 (by simp only [maxLen]; omega) oM rfl rfl ?_
 intro ad4 cap4 w4 ho4 k4 hn4
 rw [Nat.zero_add] at ho4 ⊢
 rw [List.nil_append] at ho4
 have hfr : ∀ c, c ∈ Ja1 (some (⟨b, 0, none⟩ : Addr)) → w2.heap.size ≤ c := fun c hc => by simp [Ja1] at hc; omega
 have new4 : ∀ c, c ∈ Ja1 ad4 → w2.heap.size ≤ c := fun c hc => by
  have := k3.size
  rcases hn4 c hc with h | h
  ·exact hfr c h
  ·omega
 have k24 : Kp [] w2 w4 := k3.since k4 hfr
 clear hn4 ho3 k4 hfr k3 k03 hb g1 g2
 have h1' : Blk w2 b1 [.slice ad l.length cap] 24 := by assumption
 have h2' : Blk w2 b2 [.slice none 0 0] 24 := by assumption
 have fin : ∀ {e : Env} {W : World} {ad : Option Addr} {n cap : Nat}, e 2 = ptr b2 → Blk W b2 [.slice ad n cap] 24 → resC Tryz.prog e W [.cell 2 24] [.agg ⟨[.slice ad n cap]⟩] := fun h1 h2 => ⟨⟨_, h1, Jb9 h2 rfl rfl rfl rfl⟩, trivial⟩
 refine zS ?_
 refine Jb4 (α := Nat × Option Addr × Nat) [1, 2, 3, 4] (fun y => [ptr b1, ptr b2, .slice y.2.1 (l.length + y.1) y.2.2, I y.1]) (fun y W => y.1 ≤ 70 ∧ OwnS W 81 4 y.2.1 (l.length + y.1) y.2.2 ((l ++ Jg4 y.1).flatMap qC) ∧ Kp [] w2 W ∧ ∀ c, c ∈ Ja1 y.2.1 → w2.heap.size ≤ c) (fun y => 70 - y.1) (0, ad4, cap4) rfl ⟨Nat.zero_le _, by simpa [Jg4] using ho4, k24, new4⟩ ?_
 rintro ⟨i, iad, icap⟩ e W ⟨hi, ho, kW, hnew⟩
 dsimp only at hi ho hnew ⊢
 refine zS ?_
 refine r_if rfl (fun hc => ?_) (fun hc => ?_)
 ·have hi2 : i < 70 := oM
  refine zS ?_
  refine Zb (qC (mkN i)) ?_
  refine Zn (qC (mkN i)) rfl rfl rfl kR ?_
  intro bn w5 hbn hu5
  have k5 : Kp [] W w5 := hu5.new oM
  have yW := kW.size
  refine Jg7 (k := l.length + i) (qC (mkN i)) rfl rfl (ho.kp k5 sI) (Ja7.blk hu5.blk) rfl rfl rfl dE rfl (fun v hv => Qm5 (l := [mkN i]) v (by simpa using hv)) (by simp only [maxLen]; omega) oM rfl rfl ?_
  intro ad6 cap6 w6 ho6 k6 hn6
  refine zS ?_
  refine ⟨(i + 1, ad6, cap6), rfl, ⟨by dsimp only; omega, ?_, (kW.trans k5).since k6 hnew, fun c hc => ?_⟩, by dsimp only; omega⟩
  ·dsimp only
   rw [marksN_succ, ← List.append_assoc, List.flatMap_append]
   simpa [Nat.add_assoc] using ho6
  ·have := k5.size
   rcases hn6 c hc with h | h
   ·exact hnew c h
   ·omega
 ·obtain rfl : i = 70 := oM
  have g1 := kW.b0 h1'
  have g2 := kW.b0 h2'
  have hle2 := ho.le_cap
  refine zS ?_
  refine Zl rfl g1 (v := .slice ad l.length cap) ?_
  refine zS ?_
  refine Zb [.slice iad l.length icap] ?_
  refine Zs (b := b2) (cs := [.slice iad l.length icap]) rfl g2 lR rfl (by simp [Value.oneCell']) ?_
  intro w7 hu7
  have hne : ∀ c, c ∈ Ja1 iad → c ∉ [b2] := fun c hc h => by
   have := hnew c hc
   have := h2'.lt
   simp at h; omega
  have k7 : Kp [b2] W w7 := hu7.kp [b2] (.inl sI)
  refine zS ?_
  refine ⟨_, fin rfl hu7.blk, iad, icap, rfl, ho.kp k7 hne, (k02.trans kW).since k7 (by simpa using n2), fun c hc => ?_⟩
  have := hnew c hc
  omega
end
end Go.Vc
namespace Go.Vc
open Go
set_option maxRecDepth 20000
theorem bind_any {f : Int → Int × Nat} : ∀ (l : List Int) (c : Int), (Je5 22 f l c).1 = if l.any (fun i => decide ((f i).1 = 1)) = true then 1 else c
 | [], c => by simp [Je5]
 | i :: r, c => by
  rw [Je5, if_neg oM]
  by_cases h : (f i).1 = 1
  ·rw [if_pos ⟨rfl, h⟩]; simp [h]
  ·rw [if_neg (fun hh => h hh.2), if_neg (fun hh => h hh.2), bind_any r]
   simp [h, trI]
section
variable {W : QW}
end
end Go.Vc

namespace Go.Vc
open Go
set_option maxRecDepth 20000
theorem bind_all {f : Int → Int × Nat} : ∀ (l : List Int) (c : Int), (Je5 23 f l c).1 = if l.all (fun i => decide ((f i).1 = 1)) = true then 1 else 0
 | [], c => by simp [Je5]
 | i :: r, c => by
  rw [Je5]
  by_cases h : (f i).1 = 1
  ·rw [if_neg (fun hh => hh.2 h), if_neg oM, if_neg oM, bind_all r]
   simp [h]
  ·rw [if_pos ⟨rfl, h⟩]; simp [h]
theorem evq_bool (W : QW) : ∀ (t : QT) (σ : List UInt8 → Int), Jd2 t → Jd7 t = true → Jb2 t.op.toNat = 2 → (evq W t σ).1 = 0 ∨ (evq W t σ).1 = 1
 | .n0 op num name, σ, hg, _, ha => by
  exfalso
  have ha : Jb2 op.toNat = 2 := ha
  rcases hg with ⟨rfl, _⟩ | ⟨rfl, _⟩ | ⟨rfl, _⟩ <;> exact absurd ha dE
 | .n1 op num name a, σ, hg, hs, ha => by
  obtain ⟨_, hga, h⟩ := hg
  rw [Jd7, Bool.and_eq_true, decide_eq_true_eq] at hs
  have ha : Jb2 op.toNat = 2 := ha
  rcases h with ⟨h, _⟩ | ⟨h, _⟩
  ·rcases h with rfl | rfl | rfl | rfl | rfl
   ·exact absurd ha dE
   ·exact absurd ha dE
   ·exact absurd ha dE
   ·exact absurd ha dE
   ·rw [evq, if_neg dE]
    rcases evq_bool W a σ hga hs.2 hs.1 with e | e <;> (rw [e]; first | (left; rfl) | (right; rfl))
  ·rcases h with rfl | rfl | rfl | rfl | rfl
   ·rw [evq, if_pos dE]
    dsimp only
    rw [bind_any]; split <;> simp
   ·rw [evq, if_pos dE]
    dsimp only
    rw [bind_all]; split <;> simp
   ·exact absurd ha dE
   ·exact absurd ha dE
   ·exact absurd ha dE
 | .n2 op num name a b, σ, hg, hs, ha => by
  obtain ⟨_, _, _, _, h⟩ := hg
  have ha : Jb2 op.toNat = 2 := ha
  have tr : ∀ b : Bool, trI b = 0 ∨ trI b = 1 := fun b => by cases b <;> simp [trI]
  rw [evq]
  split
  ·split
   ·exact tr _
   ·exact .inl rfl
  ·split
   ·split
    ·exact .inr rfl
    ·exact tr _
   ·rename_i h18 h19
    dsimp only
    rcases h with rfl | rfl | rfl | rfl | rfl | rfl | rfl | rfl | rfl | rfl | rfl | rfl | rfl
    ·exact absurd ha dE
    ·exact absurd ha dE
    ·exact absurd ha dE
    ·exact tr _
    ·exact tr _
    ·exact tr _
    ·exact tr _
    ·exact tr _
    ·exact tr _
    ·exact absurd rfl h18
    ·exact absurd rfl h19
    ·exact tr _
    ·exact tr _
section
variable (name : List UInt8) (q : QT)
def notQ (t : QT) : QT := .n1 17 0 [] t
end
section
variable {W : QW} {name : List UInt8} {q : QT} {σ : List UInt8 → Int}
end
end Go.Vc

namespace Go.Vc
open Go
set_option maxRecDepth 20000
structure FreeOk (name : List UInt8) (q : QT) : Prop where
 good : Jd2 q
 nm : Jc5 name = true
 named : Jd9 q [name] = true
 sense : Jd7 q = true
 ans : Jb2 q.op.toNat = 2
section
variable {name : List UInt8} {q : QT} (h : FreeOk name q)
include h
theorem FreeOk.bind (op : Int) (ho : op = 22 ∨ op = 23 ∨ op = 24 ∨ op = 25 ∨ op = 26) : Jd2 (.n1 op 0 name q) ∧ Jd9 (.n1 op 0 name q) [] = true ∧ Jd7 (.n1 op 0 name q) = true := by
 refine ⟨⟨rfl, h.good, .inr ⟨ho, h.nm⟩⟩, ?_, ?_⟩
 ·rw [Jd9, if_pos oM]; exact h.named
 ·have : ofO op.toNat = 2 := by rcases ho with rfl | rfl | rfl | rfl | rfl <;> rfl
  rw [Jd7, this, h.ans, h.sense]; rfl
def WellQ (T : QT) : Prop := Jd2 T ∧ Jd9 T [] = true ∧ Jd7 T = true
omit h in
theorem WellQ.not {T : QT} (h : WellQ T) (ha : Jb2 T.op.toNat = 2) : WellQ (notQ T) := by
 obtain ⟨h1, h2, h3⟩ := h
 refine ⟨⟨rfl, h1, .inl ⟨oM, rfl⟩⟩, ?_, ?_⟩
 ·unfold notQ; rw [Jd9, if_neg dE]; exact h2
 ·unfold notQ; rw [Jd7, h3, ha]; rfl
omit h in
theorem WellQ.two {A B : QT} (hA : WellQ A) (hB : WellQ B) (op : Int) (ho : op = 13 ∨ op = 15 ∨ op = 16 ∨ op = 18 ∨ op = 19) (ha : Jb2 A.op.toNat = ofO op.toNat) (hb : Jb2 B.op.toNat = ofO op.toNat) : WellQ (.n2 op 0 [] A B) := by
 refine ⟨⟨rfl, hA.1, hB.1, rfl, oM⟩, ?_, ?_⟩
 ·rw [Jd9, hA.2.1, hB.2.1]; rfl
 ·rw [Jd7, hA.2.2, hB.2.2, decide_eq_true ha, decide_eq_true hb]; rfl
omit h in
end
end Go.Vc

namespace Go.Vc
open Go Go.Proofs
set_option maxRecDepth 20000
section
variable {w : World}
structure KQ where
 ad : Option Addr
 cap : Nat
 l : List QN
def kqV (k : KQ) : Value := .slice k.ad k.l.length k.cap
def Ji5 (op num : Int) (name : List UInt8) (L : List QN) : List QN := ⟨op, 1 + L.length, num, name⟩ :: L
end
section
variable {w : World}
end
section
variable {w : World}
structure RT where
 word : List UInt8
 kids : Int
 of_ : Int
 ans : Int
 binds : Bool
def rtC (r : RT) : List Value := [S r.word, I r.kids, I r.of_, I r.ans, .bool r.binds]
def rowT : List RT := [⟨[], 0, 0, 1, false⟩, ⟨[], 0, 0, 1, false⟩, ⟨[101, 118, 101, 110, 116, 115], 0, 0, 1, false⟩, ⟨[45], 1, 1, 1, false⟩, ⟨[43], 2, 1, 1, false⟩, ⟨[45], 2, 1, 1, false⟩, ⟨[42], 2, 1, 1, false⟩, ⟨[116, 104, 114, 101, 97, 100], 1, 1, 1, false⟩, ⟨[107, 105, 110, 100], 1, 1, 1, false⟩, ⟨[111, 98, 106], 1, 1, 1, false⟩, ⟨[60], 2, 1, 2, false⟩, ⟨[60, 61], 2, 1, 2, false⟩, ⟨[61], 2, 1, 2, false⟩, ⟨[33, 61], 2, 1, 2, false⟩, ⟨[62, 61], 2, 1, 2, false⟩, ⟨[62], 2, 1, 2, false⟩, ⟨[110, 111, 116], 1, 2, 2, false⟩, ⟨[97, 110, 100], 2, 2, 2, false⟩, ⟨[111, 114], 2, 2, 2, false⟩, ⟨[98, 101, 102, 111, 114, 101], 2, 1, 2, false⟩, ⟨[114, 97, 99, 101], 2, 1, 2, false⟩, ⟨[97, 110, 121], 1, 2, 2, true⟩, ⟨[97, 108, 108], 1, 2, 2, true⟩, ⟨[99, 111, 117, 110, 116], 1, 2, 1, true⟩, ⟨[108, 101, 97, 115, 116], 1, 2, 1, true⟩, ⟨[109, 111, 115, 116], 1, 2, 1, true⟩]
theorem Qm9 : Ret Tryz.prog 96 [] w (fun v w' => ∃ b, v = .slice (some ⟨b, 0, none⟩) 26 26 ∧ Blk w' b (rowT.flatMap rtC) 154 ∧ Kp [] w w') := by
 refine Ze Tryz.call96 Tryz.func96 ?_
 refine zS ?_
 refine Zb (rtC ⟨[], 0, 0, 1, false⟩) ?_
 refine Zb (rtC ⟨[], 0, 0, 1, false⟩) ?_
 refine Zb (rtC ⟨[101, 118, 101, 110, 116, 115], 0, 0, 1, false⟩) ?_
 refine Zb (rtC ⟨[45], 1, 1, 1, false⟩) ?_
 refine Zb (rtC ⟨[43], 2, 1, 1, false⟩) ?_
 refine Zb (rtC ⟨[45], 2, 1, 1, false⟩) ?_
 refine Zb (rtC ⟨[42], 2, 1, 1, false⟩) ?_
 refine Zb (rtC ⟨[116, 104, 114, 101, 97, 100], 1, 1, 1, false⟩) ?_
 refine Zb (rtC ⟨[107, 105, 110, 100], 1, 1, 1, false⟩) ?_
 refine Zb (rtC ⟨[111, 98, 106], 1, 1, 1, false⟩) ?_
 refine Zb (rtC ⟨[60], 2, 1, 2, false⟩) ?_
 refine Zb (rtC ⟨[60, 61], 2, 1, 2, false⟩) ?_
 refine Zb (rtC ⟨[61], 2, 1, 2, false⟩) ?_
 refine Zb (rtC ⟨[33, 61], 2, 1, 2, false⟩) ?_
 refine Zb (rtC ⟨[62, 61], 2, 1, 2, false⟩) ?_
 refine Zb (rtC ⟨[62], 2, 1, 2, false⟩) ?_
 refine Zb (rtC ⟨[110, 111, 116], 1, 2, 2, false⟩) ?_
 refine Zb (rtC ⟨[97, 110, 100], 2, 2, 2, false⟩) ?_
 refine Zb (rtC ⟨[111, 114], 2, 2, 2, false⟩) ?_
 refine Zb (rtC ⟨[98, 101, 102, 111, 114, 101], 2, 1, 2, false⟩) ?_
 refine Zb (rtC ⟨[114, 97, 99, 101], 2, 1, 2, false⟩) ?_
 refine Zb (rtC ⟨[97, 110, 121], 1, 2, 2, true⟩) ?_
 refine Zb (rtC ⟨[97, 108, 108], 1, 2, 2, true⟩) ?_
 refine Zb (rtC ⟨[99, 111, 117, 110, 116], 1, 2, 1, true⟩) ?_
 refine Zb (rtC ⟨[108, 101, 97, 115, 116], 1, 2, 1, true⟩) ?_
 refine Zb (rtC ⟨[109, 111, 115, 116], 1, 2, 1, true⟩) ?_
 refine Zn (rowT.flatMap rtC) rfl rfl rfl kR ?_
 intro b w1 hb hu1
 refine zS ?_
 exact ⟨_, rfl, b, rfl, hu1.blk, hu1.new oM⟩
theorem Qe9 : Ret Tryz.prog 97 [] w (fun v w' => ∃ b, v = .slice (some ⟨b, 0, none⟩) 11 11 ∧ Blk w' b (Ja8.map S) 9 ∧ Kp [] w w') := by
 refine Ze Tryz.call97 Tryz.func97 ?_
 refine zS ?_
 refine Zn (Ja8.map S) rfl rfl rfl kR ?_
 intro b w1 hb hu1
 refine zS ?_
 exact ⟨_, rfl, b, rfl, hu1.blk, hu1.new oM⟩
def rowIs (s : List UInt8) (r : RT) : Bool := decide (r.word = s) && decide ((97 : Int) ≤ (s.getD 0 0).toNat)
def wordR (s : List UInt8) : Bool := (rowT.drop 2).any (rowIs s) || Ja8.any fun k => decide (k = s)
theorem Word30_ret (s : List UInt8) (hs : 1 ≤ s.length) : Ret Tryz.prog 48 [S s] w (fun v w' => v = .bool (wordR s) ∧ Kp [] w w') := by
 have hlen : rowT.length = 26 := rfl
 refine Ze Tryz.call48 Tryz.func48 ?_
 refine zS ?_
 refine Zc Qm9 ?_
 rintro v w1 ⟨b, rfl, hB, k1⟩
 refine zS ?_
 refine Jb4 (α := Nat) [0, 3, 4] (fun i => [S s, .slice (some ⟨b, 0, none⟩) 26 26, I i]) (fun i W => 2 ≤ i ∧ i ≤ 26 ∧ W = w1 ∧ ((rowT.take i).drop 2).any (rowIs s) = false) (fun i => 26 - i) 2 rfl ⟨oM, oM, rfl, rfl⟩ ?_
 rintro i e W ⟨h2, hi, rfl, hn⟩
 refine zS ?_
 refine r_if rfl (fun hc => ?_) (fun hc => ?_)
 ·have hi2 : i < rowT.length := oM
  obtain ⟨r, hr⟩ : ∃ r, rowT[i]? = some r := ⟨_, List.getElem?_eq_getElem hi2⟩
  have ht1 : (rowT.take (i + 1)).drop 2 = (rowT.take i).drop 2 ++ [r] := by
   rw [List.take_add_one, hr, List.drop_append_of_le_length (by rw [List.length_take]; omega)]; rfl
  have hword : (rowT.flatMap rtC)[i * 5 + 0]? = some (S r.word) := Jm9 (f := rtC) (m := 5) (j := 0) (fun _ => rfl) hr rfl
  have hmem : r ∈ rowT.drop 2 := List.mem_of_getElem? (i := i - 2) (by rw [List.getElem?_drop, show 2 + (i - 2) = i by omega]; exact hr)
  refine zS ?_
  refine Jf4 rfl hB (v := S r.word) (by rw [Ja2, Nat.zero_add]; exact hword) rfl rfl rfl rfl ?_
  refine Zr ?_
  by_cases hw : r.word = s
  ·refine o_pureB true rfl (decide_eq_true hw) rfl rfl ?_
   refine zS ?_
   refine r_if rfl (fun hge => ?_) (fun hge => ?_)
   ·refine zS ?_
    refine ⟨_, rfl, ?_, k1⟩
    have : (rowT.drop 2).any (rowIs s) = true := List.any_eq_true.2 ⟨r, hmem, by unfold rowIs; rw [decide_eq_true hw, Bool.true_and, decide_eq_true]; exact hge⟩
    unfold wordR; rw [this]; rfl
   ·have hge : ¬ ((97 : Int) ≤ (s.getD 0 0).toNat) := hge
    refine zS ?_
    exact ⟨i + 1, rfl, ⟨oM, oM, rfl, by rw [ht1, List.any_append, hn]; simp only [List.any_cons, List.any_nil, Bool.or_false, Bool.false_or]; unfold rowIs; rw [decide_eq_false hge, Bool.and_false]⟩, oM⟩
  ·refine o_pureB false rfl (decide_eq_false hw) rfl rfl ?_
   refine zS ?_
   exact ⟨i + 1, rfl, ⟨oM, oM, rfl, by rw [ht1, List.any_append, hn]; simp only [List.any_cons, List.any_nil, Bool.or_false, Bool.false_or]; unfold rowIs; rw [decide_eq_false hw, Bool.false_and]⟩, oM⟩
 ·obtain rfl : i = 26 := oM
  have hrows : (rowT.drop 2).any (rowIs s) = false := hn
  refine zS ?_
  refine Zc Qe9 ?_
  rintro v w2 ⟨b2, rfl, hB2, k2⟩
  have hkl : Ja8.length = 11 := rfl
  refine zS ?_
  refine Jb4 (α := Nat) [0, 5, 6] (fun i => [S s, .slice (some ⟨b2, 0, none⟩) 11 11, I i]) (fun i W => i ≤ 11 ∧ W = w2 ∧ (Ja8.take i).any (fun k => decide (k = s)) = false) (fun i => 11 - i) 0 rfl ⟨oM, rfl, rfl⟩ ?_
  rintro i e W ⟨hi, rfl, hn⟩
  refine zS ?_
  refine r_if rfl (fun hc => ?_) (fun hc => ?_)
  ·obtain ⟨k, hk⟩ : ∃ k, Ja8[i]? = some k := ⟨_, List.getElem?_eq_getElem oM⟩
   have ht1 : Ja8.take (i + 1) = Ja8.take i ++ [k] := by rw [List.take_add_one, hk]; rfl
   refine zS ?_
   refine Jf4 rfl hB2 (v := S k) (by rw [Ja2, Nat.zero_add, List.getElem?_map, hk]; rfl) rfl rfl rfl rfl ?_
   refine zS ?_
   refine r_if rfl (fun h => ?_) (fun h => ?_)
   ·refine zS ?_
    refine ⟨_, rfl, ?_, k1.trans k2⟩
    have : Ja8.any (fun k => decide (k = s)) = true := List.any_eq_true.2 ⟨k, List.mem_of_getElem? hk, decide_eq_true h⟩
    unfold wordR; rw [this, Bool.or_true]
   ·refine zS ?_
    exact ⟨i + 1, rfl, ⟨oM, rfl, by rw [ht1, List.any_append, hn]; simp [h]⟩, oM⟩
  ·obtain rfl : i = 11 := oM
   have hkinds : Ja8.any (fun k => decide (k = s)) = false := hn
   refine zS ?_
   exact ⟨_, rfl, by unfold wordR; rw [hrows, hkinds]; rfl, k1.trans k2⟩
end
section
variable {w : World}
theorem ren_ok {l l' : List QN} {a c : List UInt8} (h : renM l a c = .ok l') : l' = l.map (rnN a c) ∧ Jc5 a = true ∧ Jc5 c = true ∧ ∃ t, Jh1 l = some t := by
 unfold renM at h
 split at h
 ·cases h
 ·next t ht =>
  split at h
  ·cases h
  ·next hq =>
   cases h
   simp only [not_or, Bool.not_eq_false] at hq
   exact ⟨rfl, hq.1, hq.2, t, ht⟩
end
end Go.Vc
namespace Go.Vc
open Go
theorem bytesLess_a {c : UInt8} {r : List UInt8} (h : Jb0 c = true) : Op.bytesLess (c :: r) [97] = false := by
 unfold Jb0 at h
 rw [Bool.and_eq_true, decide_eq_true_eq, decide_eq_true_eq] at h
 have h1 := UInt8.le_iff_toNat_le.1 h.1
 have h2 : (97 : UInt8).toNat = 97 := rfl
 unfold Op.bytesLess
 rw [Bool.or_eq_false_iff]
 refine ⟨decide_eq_false fun hlt => ?_, ?_⟩
 ·have := UInt8.lt_iff_toNat_lt.1 hlt; omega
 ·cases r <;> simp [Op.bytesLess]
theorem opWord_na : ∀ k : Nat, Ja3 k ≠ [97] := by
 intro k h
 have key : ∀ k, k < 27 → Ja3 k ≠ [97] := dE
 by_cases hk : k < 27
 ·exact key k hk h
 ·have : Ja3 k = [] := by
   unfold Ja3
   split <;> first | omega | rfl
  rw [this] at h; cases h
theorem opWord_no {k : Nat} (h : k < 3 ∨ 27 ≤ k) : Ja3 k = [] := by
 unfold Ja3
 split <;> first | omega | rfl
def wordP (s : List UInt8) : Bool := ((List.range 24).any fun k => decide (Ja3 (k + 3) = s)) || Ja8.any fun k => decide (k = s)
theorem opT_a {c : UInt8} {r : List UInt8} (h : Jb0 c = true) (k : Nat) : opT (c :: r) k = decide (Ja3 k = c :: r) := by
 unfold opT
 rw [bytesLess_a h, Bool.false_or]
 by_cases hk : Ja3 k = c :: r
 ·rw [decide_eq_true hk, Bool.true_and, decide_eq_false]
  ·rfl
  ·intro h2; exact opWord_na k (hk.trans h2)
 ·rw [decide_eq_false hk, Bool.false_and]
theorem opOf_ne {c : UInt8} {r : List UInt8} (h : Jb0 c = true) : decide (opOf (c :: r) = 0) = !((List.range 24).any fun k => decide (Ja3 (k + 3) = c :: r)) := by
 unfold opOf
 cases hf : (List.range 27).find? (opT (c :: r)) with
 | none =>
  have h1 := List.find?_eq_none.1 hf
  rw [Option.getD_none, decide_eq_true rfl, Bool.eq_iff_iff]
  simp only [Bool.not_eq_true', true_iff, List.any_eq_false]
  intro k hk
  have := h1 (k + 3) (List.mem_range.2 (by have := List.mem_range.1 hk; omega))
  rwa [opT_a h] at this
 | some k =>
  have h1 := List.find?_some hf
  rw [opT_a h] at h1
  have h1 := of_decide_eq_true h1
  have hk : ¬ (k < 3 ∨ 27 ≤ k) := fun hk => by rw [opWord_no hk] at h1; cases h1
  rw [Option.getD_some, decide_eq_false oM, Bool.eq_iff_iff]
  simp only [Bool.false_eq_true, Bool.not_eq_true', false_iff, Bool.not_eq_false, List.any_eq_true]
  exact ⟨k - 3, List.mem_range.2 oM, decide_eq_true (by rw [show k - 3 + 3 = k by omega]; exact h1)⟩
theorem kinds_any (s : List UInt8) : (Ja8.any fun k => decide (k = s)) = Ja8.contains s := by
 rw [Bool.eq_iff_iff, List.any_eq_true, List.contains_iff_mem]
 constructor
 ·rintro ⟨x, hx, h⟩; rw [← of_decide_eq_true h]; exact hx
 ·exact fun h => ⟨s, h, decide_eq_true rfl⟩
theorem qName_cons (c : UInt8) (r : List UInt8) (h : Jb0 c = true) : Jc5 (c :: r) = (decide (r.length < 24) && !wordP (c :: r) && r.all fun c => Jb0 c || Jb3 c) := by
 unfold Jc5 wordP
 rw [opOf_ne h, ← kinds_any]
 simp only [List.isEmpty_cons, Bool.not_false, Bool.true_and, List.length_cons, List.head?_cons, Option.map_some, Option.getD_some, h, Bool.and_true, List.all_cons, Bool.true_or]
 rw [show decide (r.length + 1 ≤ 24) = decide (r.length < 24) from by rw [decide_eq_decide]; omega]
 rw [Bool.not_or]
 simp only [Bool.and_assoc]
theorem qName_head (c : UInt8) (r : List UInt8) (h : Jb0 c = false) : Jc5 (c :: r) = false := by
 unfold Jc5
 simp [h]
theorem Jn1 (c : UInt8) : Jb0 c = true ↔ 97 ≤ c.toNat ∧ c.toNat ≤ 122 := by
 unfold Jb0
 rw [Bool.and_eq_true, decide_eq_true_eq, decide_eq_true_eq, UInt8.le_iff_toNat_le, UInt8.le_iff_toNat_le]; exact Iff.rfl
theorem digitN_iff (c : UInt8) : Jb3 c = true ↔ 48 ≤ c.toNat ∧ c.toNat ≤ 57 := by
 unfold Jb3
 rw [Bool.and_eq_true, decide_eq_true_eq, decide_eq_true_eq, UInt8.le_iff_toNat_le, UInt8.le_iff_toNat_le]; exact Iff.rfl
def ldB (c : UInt8) : Bool := Jb0 c || Jb3 c
theorem ld_iff (c : UInt8) : ldB c = true ↔ (97 ≤ c.toNat ∧ c.toNat ≤ 122) ∨ (48 ≤ c.toNat ∧ c.toNat ≤ 57) := by
 unfold ldB; rw [Bool.or_eq_true, Jn1, digitN_iff]
theorem all_drop {p : UInt8 → Bool} {s : List UInt8} : (s.drop 1).all p = true ↔ ∀ j, 1 ≤ j → j < s.length → p (s.getD j 0) = true := by
 rw [List.all_eq_true]
 constructor
 ·intro h j h1 h2
  refine h _ ?_
  rw [List.getD_eq_getElem?_getD, List.getElem?_eq_getElem h2]
  exact List.mem_of_getElem? (i := j - 1) (by rw [List.getElem?_drop, show 1 + (j - 1) = j by omega]; exact List.getElem?_eq_getElem h2)
 ·intro h x hx
  obtain ⟨i, hi⟩ := List.getElem?_of_mem hx
  rw [List.getElem?_drop] at hi
  have h2 := (List.getElem?_eq_some_iff.1 hi).1
  have := h (1 + i) oM h2
  rwa [List.getD_eq_getElem?_getD, hi] at this
theorem Qc8 {s : List UInt8} (h1 : 1 ≤ s.length) (h : Jb0 (s.getD 0 0) = false) : Jc5 s = false := by
 cases s with
 | nil => simp at h1
 | cons c r => exact qName_head c r h
theorem qName_s2 {s : List UInt8} (h1 : 1 ≤ s.length) (h : Jb0 (s.getD 0 0) = true) : Jc5 s = (decide (s.length ≤ 24) && !wordP s && (s.drop 1).all ldB) := by
 cases s with
 | nil => simp at h1
 | cons c r =>
  rw [qName_cons c r h, show decide ((c :: r).length ≤ 24) = decide (r.length < 24) from by rw [decide_eq_decide, List.length_cons]; omega]
  rfl
theorem qName_long {s : List UInt8} (h : 24 < s.length) : Jc5 s = false := by
 unfold Jc5
 rw [decide_eq_false (show ¬ s.length ≤ 24 by omega)]; simp
end Go.Vc

