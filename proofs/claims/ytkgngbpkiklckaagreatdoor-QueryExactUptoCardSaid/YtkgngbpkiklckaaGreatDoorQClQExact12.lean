/- Parts of a proof. -/
import Derived.Test.YtkgngbpkiklckaaGreatDoorQClQExact11
set_option maxHeartbeats 12800000
namespace Go.Vc
open Go Go.Proofs
set_option maxRecDepth 20000
section
variable {w : World}
def zsh (_ : Int) : List Value := [S [], I 0, I 0, I 0, .bool false, .bool false]
abbrev TBlk (sh : Int → List Value) (w : World) (p : Nat) (o sz m : Int) (s : List UInt8) (below : Value) : Prop := Blk w p ([I o, I sz, I m, S s] ++ sh o ++ [below]) 121
def Jc3 (sh : Int → List Value) (lo : Nat) (w : World) : QT → Nat → Prop
 | .n0 o m s, p => lo ≤ p ∧ ∃ ad cap, TBlk sh w p o 1 m s (.slice ad 0 cap)
 | .n1 o m s a, p => lo ≤ p ∧ ∃ ad cap q, TBlk sh w p o (1 + a.size : Nat) m s (.slice ad 1 cap) ∧ Ja7 w ad [ptr q] ∧ (∀ b ∈ Ja1 ad, lo ≤ b) ∧ Jc3 sh lo w a q
 | .n2 o m s a b, p => lo ≤ p ∧ ∃ ad cap q r, TBlk sh w p o (1 + a.size + b.size : Nat) m s (.slice ad 2 cap) ∧ Ja7 w ad [ptr q, ptr r] ∧ (∀ b ∈ Ja1 ad, lo ≤ b) ∧ Jc3 sh lo w a q ∧ Jc3 sh lo w b r
variable {sh : Int → List Value} {lo : Nat}
theorem Jc3.kp {w' : World} {F : List Nat} (hk : Kp F w w') (hF : ∀ b, b ∈ F → b < lo) : ∀ {t : QT} {p : Nat}, Jc3 sh lo w t p → Jc3 sh lo w' t p
 | .n0 .., p, ⟨h1, ad, cap, h2⟩ => ⟨h1, ad, cap, hk.blk (fun h => by have := hF p h; omega) h2⟩
 | .n1 .., p, ⟨h1, ad, cap, q, h2, h3, h4, h5⟩ => ⟨h1, ad, cap, q, hk.blk (fun h => by have := hF p h; omega) h2, h3.kp hk (fun b hb h => by have := hF b h; have := h4 b hb; omega), h4, h5.kp hk hF⟩
 | .n2 .., p, ⟨h1, ad, cap, q, r, h2, h3, h4, h5, h6⟩ => ⟨h1, ad, cap, q, r, hk.blk (fun h => by have := hF p h; omega) h2, h3.kp hk (fun b hb h => by have := hF b h; have := h4 b hb; omega), h4, h5.kp hk hF, h6.kp hk hF⟩
theorem Jc3.lo_le {lo' : Nat} (hl : lo' ≤ lo) : ∀ {t : QT} {p : Nat}, Jc3 sh lo w t p → Jc3 sh lo' w t p
 | .n0 .., p, ⟨h1, h⟩ => ⟨oM, h⟩
 | .n1 .., p, ⟨h1, ad, cap, q, h2, h3, h4, h5⟩ => ⟨oM, ad, cap, q, h2, h3, fun b hb => by have := h4 b hb; omega, h5.lo_le hl⟩
 | .n2 .., p, ⟨h1, ad, cap, q, r, h2, h3, h4, h5, h6⟩ => ⟨oM, ad, cap, q, r, h2, h3, fun b hb => by have := h4 b hb; omega, h5.lo_le hl, h6.lo_le hl⟩
theorem Jc3.blk {t : QT} {p : Nat} (h : Jc3 sh lo w t p) : ∃ o m s below, TBlk sh w p o t.size m s below ∧ lo ≤ p ∧ o = t.op := by
 cases t with
 | n0 o m s => obtain ⟨h1, ad, cap, h2⟩ := h; exact ⟨_, _, _, _, h2, h1, rfl⟩
 | n1 o m s a => obtain ⟨h1, ad, cap, q, h2, _⟩ := h; exact ⟨_, _, _, _, h2, h1, rfl⟩
 | n2 o m s a b => obtain ⟨h1, ad, cap, q, r, h2, _⟩ := h; exact ⟨_, _, _, _, h2, h1, rfl⟩
def sumS : List (Nat × QT) → Nat
 | [] => 0
 | x :: r => x.2.size + sumS r
theorem sumS_take (l : List (Nat × QT)) : ∀ i, i < l.length → sumS (l.take (i + 1)) = sumS (l.take i) + ((l[i]?).map fun x => x.2.size).getD 0 := by
 induction l with
 | nil => intro i hi; simp at hi
 | cons x r ih =>
  intro i hi
  cases i with
  | zero => simp [sumS]
  | succ i =>
   have := ih i (by simpa using hi)
   simp only [List.take_succ_cons, sumS, List.getElem?_cons_succ]
   omega
theorem sumS_le (l : List (Nat × QT)) (i : Nat) : sumS (l.take i) ≤ sumS l := by
 induction l generalizing i with
 | nil => simp
 | cons x r ih =>
  cases i with
  | zero => simp [sumS]
  | succ i => have := ih i; simp only [List.take_succ_cons, sumS]; omega
theorem Jj0 {ad : Option Addr} {cap : Nat} (op num : Int) (name : List UInt8) (kids : List (Nat × QT)) (hr : Ja7 w ad (kids.map fun x => ptr x.1)) (hk : ∀ x ∈ kids, ∃ sh lo, Jc3 sh lo w x.2 x.1) (hs : sumS kids ≤ 4611686018427387904) (hkl : kids.length ≤ 2) :
  Ret Tryz.prog 122 [I op, S name, I num, .slice ad kids.length cap] w (fun v w' => ∃ p, v = ptr p ∧ w.heap.size ≤ p ∧ TBlk zsh w' p op (1 + sumS kids : Nat) num name (.slice ad kids.length cap) ∧ Kp [] w w') := by
 refine Ze Tryz.call122 Tryz.func122 ?_
 refine zS ?_
 refine Zb [I op, I 1, I num, S name] ?_
 refine zS ?_
 refine Zb [I op, I 1, I num, S name, S [], I 0, I 0, I 0, .bool false, .bool false, .slice ad kids.length cap] ?_
 refine Zx ?_
 intro p w1 hp hu
 have k1 : Kp [] w w1 := hu.new oM
 have hB1 : TBlk zsh w1 p op 1 num name (.slice ad kids.length cap) := hu.blk
 refine zS ?_
 refine Jb4 (α := Nat) [9, 19, 20, 21] (fun i => [ptr p, .slice ad kids.length cap, I kids.length, I i]) (fun i W => i ≤ kids.length ∧ Kp [] w W ∧ TBlk zsh W p op (1 + sumS (kids.take i) : Nat) num name (.slice ad kids.length cap)) (fun i => kids.length - i) 0 rfl ⟨Nat.zero_le _, k1, hB1⟩ ?_
 rintro i e W ⟨hi, kW, hB⟩
 refine zS ?_
 refine r_if rfl (fun hc => ?_) (fun hc => ?_)
 ·have hi2 : i < kids.length := oM
  obtain ⟨x, hx⟩ : ∃ x, kids[i]? = some x := ⟨_, List.getElem?_eq_getElem hi2⟩
  obtain ⟨b, off, rfl, _, hcell⟩ := (hr.kp kW sI).at_ (by simp; omega)
  obtain ⟨sh, lo, hT⟩ := hk x (List.mem_of_getElem? hx)
  obtain ⟨o, m, s, below, hBx, _, _⟩ := (hT.blk)
  have hst := sumS_take kids i hi2
  have hsl := sumS_le kids (i + 1)
  rw [hx] at hst
  simp only [Option.map_some, Option.getD_some] at hst
  have hxB := kW.b0 hBx
  refine zk ?_
  refine Ja9 ?_
  refine r_block ?_
  refine Ja9 ?_
  refine zg ?_
  refine zO ?_
  refine Zo (v := ptr x.1) rfl (hcell i _ (by rw [List.getElem?_map, hx]; rfl)) ?_
  refine zO ?_
  refine Je9 Ja0 rfl kR kR ?_
  refine zM hB ?_
  refine Zq (v := I x.2.size) rfl (fun _ hs => (Sm.blk hs hxB).cell rfl) ?_
  refine zM hB ?_
  intro w' hs
  have hB' := hs.blk hB
  refine Zt (off := 1) rfl hB' (by simp [zsh]) ?_
  intro w3 hu3
  refine zS ?_
  have s1 := hu.lt
  refine ⟨i + 1, rfl, ⟨oM, (kW.trans (hs.kp [])).since (hu3.kp [p] (.inl sI)) (by simp; omega), ?_⟩, oM⟩
  have h3 := hu3.blk
  have e1 : (((1 + sumS (kids.take i) : Nat) : Int) + (x.2.size : Int)) = ((1 + sumS (kids.take (i + 1)) : Nat) : Int) := oM
  rw [e1] at h3
  exact h3
 ·have : i = kids.length := oM
  subst this
  refine zS ?_
  exact ⟨_, rfl, p, rfl, oM, by rw [List.take_length] at hB; exact hB, kW⟩
end
end Go.Vc
namespace Go.Vc
theorem Jd4 {s s' : TS} (h : adv s = .ok s') : s'.len ≤ s.len - 1 ∧ (s.len = 0 → s' = s) := by
 unfold adv at h
 split at h
 ·cases h
 ·cases h; simp [TS.len]
 ·rename_i h1 h2
  cases h
  cases s with
  | tok t r => cases r <;> first | exact absurd rfl (h1 _ _) | exact absurd rfl (h2 _ _)
  | stop j => simp [TS.len]
  | bad j => simp [TS.len]
theorem Jo5 {s : TS} {word : List UInt8} (h : s.is word = true) : 1 ≤ s.len := by
 cases s with
 | tok t r => simp [TS.len]
 | stop j => cases h
 | bad j => cases h
theorem Jg6 {s s' : TS} {word : List UInt8} (h : Jc4 s word = .ok s') : s'.len + 1 ≤ s.len := by
 unfold Jc4 at h
 split at h
 ·rename_i h1
  have := Jo5 h1
  have := (Jd4 h).1
  omega
 ·cases h
theorem Qg6 {lvl : Nat} {s : TS} {op : Int} (h : Jj6 lvl s = some op) : 1 ≤ s.len := by
 unfold Jj6 at h
 split at h
 ·split at h
  ·rename_i h1; exact Jo5 h1
  ·cases h
 ·split at h
  ·rename_i h1; exact Jo5 h1
  ·cases h
 ·split at h
  ·rename_i h1; exact Jo5 h1
  ·split at h
   ·rename_i h1; exact Jo5 h1
   ·cases h
 ·split at h
  ·rename_i h1; exact Jo5 h1
  ·cases h
theorem Jb1 {α β ε : Type} {x : Except ε α} {f : α → Except ε β} {b : β} (h : (x >>= f) = .ok b) : ∃ a, x = .ok a ∧ f a = .ok b := by
 cases x with
 | error e => cases h
 | ok a => exact ⟨a, rfl, h⟩
theorem cmpOp_len {s : TS} {k : Nat} (h : Jk1 s = some k) : 1 ≤ s.len := by
 unfold Jk1 at h
 have := List.find?_some h
 exact Jo5 this
theorem Ji1 : ∀ n : Nat, (∀ lvl s t s', rd n lvl s = .ok (t, s') → t.size + s'.len ≤ s.len) ∧ (∀ lvl u s t s', rw n lvl u s = .ok (t, s') → t.size + s'.len ≤ u.size + s.len) ∧ (∀ op s t s', 1 ≤ s.len → wd n op s = .ok (t, s') → t.size + s'.len ≤ s.len)
 | 0 => ⟨fun _ _ _ _ h => by simp [rd] at h, fun _ _ _ _ _ h => by simp [rw] at h, fun _ _ _ _ _ h => by simp [wd] at h⟩
 | n + 1 => by
  obtain ⟨ih1, ih2, ih3⟩ := Ji1 n
  have hrow : ∀ lvl s t s', (do let (t, s) ← rd n (Ji6 lvl) s; rw n lvl t s) = (.ok (t, s') : PR) → t.size + s'.len ≤ s.len := by
   intro lvl s t s' h
   obtain ⟨⟨t1, s1⟩, h1, h2⟩ := Jb1 h
   have := ih1 _ _ _ _ h1
   have := ih2 _ _ _ _ _ h2
   omega
  refine ⟨fun lvl s t s' h => ?_, fun lvl u s t s' h => ?_, fun op s t s' hs h => ?_⟩
  ·unfold rd at h
   split at h
   ·split at h
    ·rename_i h0
     have h00 := Jo5 h0
     obtain ⟨s1, h1, h⟩ := Jb1 h
     obtain ⟨⟨t1, s2⟩, h2, h⟩ := Jb1 h
     cases h
     have := (Jd4 h1).1
     have := ih1 _ _ _ _ h2
     simp only [QT.size]; omega
    ·obtain ⟨⟨t1, s1⟩, h1, h⟩ := Jb1 h
     have g1 := ih1 _ _ _ _ h1
     dsimp only at h
     split at h
     ·rename_i op hop
      have h00 := cmpOp_len hop
      obtain ⟨s2, h2, h⟩ := Jb1 h
      obtain ⟨⟨t2, s3⟩, h3, h⟩ := Jb1 h
      cases h
      have := (Jd4 h2).1
      have := ih1 _ _ _ _ h3
      simp only [QT.size]; omega
     ·cases h; exact g1
   ·exact hrow _ _ _ _ h
   ·exact hrow _ _ _ _ h
   ·exact hrow _ _ _ _ h
   ·exact hrow _ _ _ _ h
   ·split at h
    ·rename_i t0 r
     have hl : 1 ≤ (TS.tok t0 r).len := by simp [TS.len]
     split at h
     ·obtain ⟨s1, h1, h⟩ := Jb1 h
      cases h
      have := (Jd4 h1).1
      simp only [QT.size]; omega
     ·split at h
      ·obtain ⟨s1, h1, h⟩ := Jb1 h
       obtain ⟨⟨t2, s2⟩, h2, h⟩ := Jb1 h
       cases h
       have := (Jd4 h1).1
       have := ih1 _ _ _ _ h2
       simp only [QT.size]; omega
      ·split at h
       ·obtain ⟨s1, h1, h⟩ := Jb1 h
        obtain ⟨⟨t2, s2⟩, h2, h⟩ := Jb1 h
        obtain ⟨s3, h3, h⟩ := Jb1 h
        cases h
        have := (Jd4 h1).1
        have := ih1 _ _ _ _ h2
        have := Jg6 h3
        omega
       ·split at h
        ·obtain ⟨s1, h1, h⟩ := Jb1 h
         cases h
         have := (Jd4 h1).1
         simp only [QT.size]; omega
        ·split at h
         ·exact ih3 _ _ _ _ hl h
         ·split at h
          ·obtain ⟨s1, h1, h⟩ := Jb1 h
           cases h
           have := (Jd4 h1).1
           simp only [QT.size]; omega
          ·cases h
    ·cases h
  ·unfold rw at h
   split at h
   ·cases h; exact lR
   ·rename_i op hop
    have h00 := Qg6 hop
    obtain ⟨s1, h1, h⟩ := Jb1 h
    obtain ⟨⟨t2, s2⟩, h2, h⟩ := Jb1 h
    have := (Jd4 h1).1
    have := ih1 _ _ _ _ h2
    have := ih2 _ _ _ _ _ h
    simp only [QT.size] at this; omega
  ·unfold wd at h
   split at h
   ·obtain ⟨s1, h1, h⟩ := Jb1 h
    cases h
    have := (Jd4 h1).1
    simp only [QT.size]; omega
   ·split at h
    ·obtain ⟨s1, h1, h⟩ := Jb1 h
     have := (Jd4 h1).1
     split at h
     ·rename_i t0 r
      split at h
      ·cases h
      ·obtain ⟨s2, h2, h⟩ := Jb1 h
       obtain ⟨s3, h3, h⟩ := Jb1 h
       obtain ⟨⟨t4, s4⟩, h4, h⟩ := Jb1 h
       cases h
       have := (Jd4 h2).1
       have := Jg6 h3
       have := ih1 _ _ _ _ h4
       simp only [QT.size]; omega
     ·cases h
    ·split at h
     ·obtain ⟨s1, h1, h⟩ := Jb1 h
      obtain ⟨s2, h2, h⟩ := Jb1 h
      obtain ⟨⟨t3, s3⟩, h3, h⟩ := Jb1 h
      have := (Jd4 h1).1
      have := Jg6 h2
      have := ih1 _ _ _ _ h3
      dsimp only at h
      split at h
      ·obtain ⟨s4, h4, h⟩ := Jb1 h
       cases h
       have := Jg6 h4
       simp only [QT.size]; omega
      ·obtain ⟨s4, h4, h⟩ := Jb1 h
       obtain ⟨⟨t5, s5⟩, h5, h⟩ := Jb1 h
       dsimp only at h
       obtain ⟨s6, h6, h⟩ := Jb1 h
       cases h
       have := Jg6 h4
       have := ih1 _ _ _ _ h5
       have := Jg6 h6
       simp only [QT.size]; omega
     ·cases h
end Go.Vc

namespace Go.Vc
open Go Go.Proofs
set_option maxRecDepth 20000
section
section
variable {P : Program} {n : Nat} {w : World} {e : Env} {K : Jc0} {all : List Oper} {G : List Nat} {ro : Ro} {dst : Option Tmp} {ty : TypeId} {pos : String} {after : Array Edge} {g : Option (Nat × Bool)} {l : List Oper} {t : TypeId} {x y : Operand}
theorem Js1 {kt et : TypeId} {d : TypeDesc} {es : Array MapEntry} {clock m : Nat} {key v : Value} {z : Operand} {c1 c2 : Option Prop} (hx : ev e x = .map (some m)) (hy : same (ev e y) = some (c1, key)) (hv : same (ev e z) = some (c2, v)) (hb : w.heap[m]? = some (.map es clock))
  (hr : Instr.findNow d key es.toList 0 = some none) (hu : P.underlying t = some (.map kt et)) (hk : P.underlying kt = some d) (hdd : d = .string ∨ ∃ k, d = .int k) (hd : dOk n dst = true) (hm : may all G e g = some true)
  (k : ∀ w', Upd w m (.map (es.push ⟨key, v, clock⟩) (clock + 1)) w' → Ops ro P n all G K l (put e dst undef) w') : Ops ro P n all G K (⟨dst, .insert t x y z, ty, pos, after, g⟩ :: l) e w := by
 refine Jo8 (w' := { w with heap := w.heap.setIfInBounds m (.map (es.push ⟨key, v, clock⟩) (clock + 1)) }) hd hm ?_ (k _ (Jh4 hb))
 have hgo : (getObj m).run P w = .ok (.map es clock) w := by simp [getObj, Sem.run, hb]
 have hfk : (Instr.findKey kt key es.toList).run P w = .ok none w := by
  simp only [Instr.findKey, Sem.run_bind, run_underlying hk, Result.andThen_ok, hr, Sem.run_pure]
 have hso : ∀ o, (setObj m o).run P w = .ok () { w with heap := w.heap.setIfInBounds m o } := fun o => by simp [setObj, Sem.run, hb]
 simp only [execOp, Instr.mapUpdate, hx, ← Jg1 hy, ← Jg1 hv, Sem.run_bind, run_underlying hu, Result.andThen_ok, hgo, Jb8 hk hdd, hfk, hso, Sem.run_pure]
end
def wordE : Nat → Array MapEntry
 | 0 => #[⟨S (Ja3 19), I 19, 0⟩]
 | 1 => #[⟨S (Ja3 18), I 18, 0⟩]
 | 3 => #[⟨S (Ja3 5), I 5, 0⟩, ⟨S (Ja3 6), I 6, 1⟩]
 | _ => #[⟨S (Ja3 7), I 7, 0⟩]
def wordF (lvl : Nat) (s : List UInt8) : Option Int :=
 match lvl with
 | 0 => if s = Ja3 19 then some 19 else none
 | 1 => if s = Ja3 18 then some 18 else none
 | 3 => if s = Ja3 5 then some 5 else if s = Ja3 6 then some 6 else none
 | _ => if s = Ja3 7 then some 7 else none
theorem beq_strQ (a b : List UInt8) : ((ByteArray.mk ⟨a⟩) == (ByteArray.mk ⟨b⟩)) = decide (a = b) := by
 have : ((ByteArray.mk ⟨a⟩) == (ByteArray.mk ⟨b⟩)) = ((Array.mk a) == (Array.mk b)) := rfl
 rw [this, Bool.eq_iff_iff]; simp
theorem same_str (a b : List UInt8) : Instr.sameNow .string (S a) (S b) = some (decide (a = b)) := by
 show some _ = some _
 rw [← beq_strQ]
theorem word_find (lvl : Nat) (s : List UInt8) : ∃ r : Option (Nat × Value), Instr.findNow .string (S s) (wordE lvl).toList 0 = some r ∧ (match wordF lvl s with | some v => ∃ i, r = some (i, I v) | none => r = none) := by
 have h1 : ∀ (k : Nat) (v : Int), ∃ r : Option (Nat × Value), Instr.findNow .string (S s) [⟨S (Ja3 k), I v, 0⟩] 0 = some r ∧ (match (if s = Ja3 k then some v else none) with | some v => ∃ i, r = some (i, I v) | none => r = none) := by
  intro k v
  simp only [Instr.findNow, same_str]
  by_cases c : s = Ja3 k
  ·rw [if_pos c, decide_eq_true c]; exact ⟨_, rfl, _, rfl⟩
  ·rw [if_neg c, decide_eq_false c]; exact ⟨_, rfl, rfl⟩
 unfold wordE wordF
 split
 ·exact h1 19 19
 ·exact h1 18 18
 ·simp only [Instr.findNow, same_str]
  by_cases c : s = Ja3 5
  ·rw [if_pos c, decide_eq_true c]; exact ⟨_, rfl, _, rfl⟩
  ·rw [if_neg c, decide_eq_false c]
   by_cases c2 : s = Ja3 6
   ·rw [if_pos c2, decide_eq_true c2]; exact ⟨_, rfl, _, rfl⟩
   ·rw [if_neg c2, decide_eq_false c2]; exact ⟨_, rfl, rfl⟩
 ·exact h1 7 7
theorem rowOp_eq {s : TS} (lvl : Nat) : Jj6 lvl s = if s.hd.num < 0 then wordF lvl s.hd.text else none := by
 have e : ∀ (k : Nat), Ja3 k ≠ [] → s.is (Ja3 k) = (decide (s.hd.text = Ja3 k) && decide (s.hd.num < 0)) := fun k hk => is_hd hk
 unfold Jj6 wordF
 by_cases c : s.hd.num < 0
 ·rw [if_pos c]
  split <;> simp only [e 19 dE, e 18 dE, e 5 dE, e 6 dE, e 7 dE, c, decide_true, Bool.and_true, decide_eq_true_eq]
 ·rw [if_neg c]
  split <;> simp [e 19 dE, e 18 dE, e 5 dE, e 6 dE, e 7 dE, c]
end
section
variable {w : World} {p : Nat} {txt : List UInt8} {s : TS}
def RdOk (n lvl : Nat) (f : FuncId) : Prop := ∀ {w : World} {p : Nat} {txt : List UInt8} {s : TS}, AscW w → p ≠ 0 → PAt w p txt s → txt.length ≤ 4096 → s.len ≤ 4096 → 10 * s.len + 7 ≤ n + lvl →
 RetP Tryz.prog f [ptr p] w (fun v w' => ∃ t s', rd n lvl s = .ok (t, s') ∧ (∃ q, v = ptr q ∧ Jc3 zsh (p + 1) w' t q) ∧ PAt w' p txt s' ∧ Kp [p] w w') (OutE (rd n lvl s) p w)
theorem rd_row {n lvl : Nat} (hl : lvl = 0 ∨ lvl = 1 ∨ lvl = 3 ∨ lvl = 4) : rd (n + 1) lvl s = (rd n (Ji6 lvl) s >>= fun x => rw n lvl x.1 x.2) := by
 rcases hl with rfl | rfl | rfl | rfl <;> rfl
theorem Jz4 {m lvl : Nat} {t : QT} (h : Jj6 lvl s = none) : rw (m + 1) lvl t s = .ok (t, s) := by
 rw [rw, h]
theorem Qg7 {m lvl : Nat} {t : QT} {op : Int} (h : Jj6 lvl s = some op) : rw (m + 1) lvl t s = (adv s >>= fun s => rd m (Ji6 lvl) s >>= fun x => rw m lvl (.n2 op 0 [] t x.1) x.2) := by
 rw [rw, h]
theorem Qb8 {w : World} {k : Tok} {i : Nat} (h : PB w p txt i k) : p < w.heap.size := Blk.lt h
theorem n2_at {w3 w5 : World} {q q2 b p' : Nat} {t u : QT} {op : Int} (ht : Jc3 zsh (p + 1) w3 t q) (hu : Jc3 zsh (p + 1) w3 u q2) (k35 : Kp [] w3 w5) (hb : p + 1 ≤ b) (hr : Ja7 w5 (some ⟨b, 0, none⟩) [ptr q, ptr q2]) (hp' : p + 1 ≤ p')
  (hB : TBlk zsh w5 p' op (1 + sumS [(q, t), (q2, u)] : Nat) 0 [] (.slice (some ⟨b, 0, none⟩) 2 2)) : Jc3 zsh (p + 1) w5 (.n2 op 0 [] t u) p' := by
 refine ⟨hp', some ⟨b, 0, none⟩, 2, q, q2, ?_, hr, by simp [Ja1]; exact hb, ht.kp k35 sI, hu.kp k35 sI⟩
 have e : 1 + sumS [(q, t), (q2, u)] = 1 + t.size + u.size := by simp [sumS]; omega
 rw [e] at hB
 exact hB
theorem row_ret {n lvl : Nat} {f : FuncId} {mm c : Nat} (hl : lvl = 0 ∨ lvl = 1 ∨ lvl = 3 ∨ lvl = 4) (ih : ∀ m, m ≤ n → RdOk m (Ji6 lvl) f) (hA : AscW w) (hpg : p ≠ 0) (h : PAt w p txt s) (htl : txt.length ≤ 4096) (hsl : s.len ≤ 4096) (hn : 10 * s.len + 7 ≤ n + 1 + lvl)
  (hm : w.heap[mm]? = some (.map (wordE lvl) c)) (hmp : mm ≠ p) :
  RetP Tryz.prog 81 [ptr p, .func (.func f) #[ptr p] #[], .map (some mm)] w (fun v w' => ∃ t s', rd (n + 1) lvl s = .ok (t, s') ∧ (∃ q, v = ptr q ∧ Jc3 zsh (p + 1) w' t q) ∧ PAt w' p txt s' ∧ Kp [p] w w') (OutE (rd (n + 1) lvl s) p w) := by
 have hrd := rd_row (n := n) (s := s) hl
 have hmlt : mm < w.heap.size := (Array.getElem?_eq_some_iff.1 hm).1
 have hpl := Qb8 h.pb
 have hsub : Ji6 lvl = lvl + 1 := by rcases hl with rfl | rfl | rfl | rfl <;> rfl
 refine Zp Tryz.call81 Tryz.func81 ?_
 refine zS ?_
 refine Jh0 (first := #[ptr p]) (cap := #[]) (ih n lR hA hpg h htl hsl (by rw [hsub]; omega)) rfl rfl rfl rfl (fun v w' hE => ?_) ?_
 ·obtain ⟨c1, i1, h1, h2, h3⟩ := hE
  exact ⟨c1, i1, by rw [hrd, h1]; rfl, h2, h3⟩
 rintro v w1 ⟨t, s1, h1, ⟨q, rfl, hT⟩, hP, k1⟩
 have hz := (Ji1 n).1 _ _ _ _ h1
 rw [h1] at hrd
 have hrd : rd (n + 1) lvl s = rw n lvl t s1 := hrd
 have htp := t.size_pos
 refine zS ?_
 refine Jb4 (α := Nat × QT × TS × Nat) [0, 1, 2, 7] (fun x => [ptr p, .func (.func f) #[ptr p] #[], .map (some mm), ptr x.2.2.2])
  (fun x W => rd (n + 1) lvl s = rw x.1 lvl x.2.1 x.2.2.1 ∧ x.1 ≤ n ∧ 10 * x.2.2.1.len + 1 ≤ x.1 ∧ Jc3 zsh (p + 1) W x.2.1 x.2.2.2 ∧ PAt W p txt x.2.2.1 ∧ Kp [p] w W ∧ x.2.1.size + x.2.2.1.len ≤ s.len) (fun x => x.1) (n, t, s1, q) rfl ⟨hrd, lR, by dsimp only; omega, hT, hP, k1, hz⟩ ?_
 clear hT hP k1 hz htp h1 hrd
 rintro ⟨m, t, s1, q⟩ e W ⟨hrd, hmn, hnd, hT, hP, kW, hz⟩
 dsimp only at hrd hmn hnd hT hP hz ⊢
 obtain ⟨m', rfl⟩ : ∃ m', m = m' + 1 := ⟨m - 1, oM⟩
 have hmW : W.heap[mm]? = some (.map (wordE lvl) c) := by rw [kW.at_ mm hmlt (by simpa using hmp)]; exact hm
 have hB := hP.pb
 obtain ⟨r, hr, hw⟩ := word_find lvl s1.hd.text
 have hro := rowOp_eq (s := s1) lvl
 refine zL hB ?_
 refine o_lookup2 r rfl rfl hmW hr rfl rfl (.inl rfl) rfl rfl rfl rfl ?_
 cases hwf : wordF lvl s1.hd.text with
 | none =>
  rw [hwf] at hw hro
  have hw : r = none := hw
  subst hw
  have hro : Jj6 lvl s1 = none := by rw [hro]; split <;> rfl
  refine zL hB ?_
  exact ⟨_, rfl, t, s1, by rw [hrd, Jz4 hro], ⟨q, rfl, hT⟩, hP, kW⟩
 | some v =>
  rw [hwf] at hw hro
  obtain ⟨i, hw⟩ : ∃ i, r = some (i, I v) := hw
  subst hw
  refine zL hB ?_
  refine r_if rfl (fun h0 => ?_) (fun h0 => ?_)
  ·have hro : Jj6 lvl s1 = none := by rw [hro, if_neg oM]
   refine zL hB ?_
   exact ⟨_, rfl, t, s1, by rw [hrd, Jz4 hro], ⟨q, rfl, hT⟩, hP, kW⟩
  ·have hro : Jj6 lvl s1 = some v := by rw [hro, if_pos oM]
   have hl1 := Qg6 hro
   rw [Qg7 hro] at hrd
   refine zS ?_
   refine Jb7 (Js9 hP htl) rfl rfl rfl (fun v w' hE => ?_) ?_
   ·obtain ⟨c1, i1, h1, h2, h3⟩ := hE
    exact ⟨c1, i1, by rw [hrd, h1]; rfl, h2, kW.trans h3⟩
   rintro v' w2 ⟨rfl, ⟨s2, h2, hP2⟩, k2⟩
   rw [h2] at hrd
   have hrd : rd (n + 1) lvl s = (rd m' (Ji6 lvl) s2 >>= fun x => rw m' lvl (.n2 v 0 [] t x.1) x.2) := hrd
   have hl2 := (Jd4 h2).1
   have kW2 := kW.trans k2
   refine zS ?_
   refine Jh0 (first := #[ptr p]) (cap := #[]) (ih m' oM (hA.kp kW2 (by simpa using Ne.symm hpg)) hpg hP2 htl oM (by rw [hsub]; omega)) rfl rfl rfl rfl (fun v w' hE => ?_) ?_
   ·obtain ⟨c1, i1, h1, h2, h3⟩ := hE
    exact ⟨c1, i1, by rw [hrd, h1]; rfl, h2, kW2.trans h3⟩
   rintro v' w3 ⟨u, s3, h3, ⟨q2, rfl, hT3⟩, hP3, k3⟩
   have hz3 := (Ji1 m').1 _ _ _ _ h3
   rw [h3] at hrd
   have hrd : rd (n + 1) lvl s = rw m' lvl (.n2 v 0 [] t u) s3 := hrd
   have htp := t.size_pos
   have hup := u.size_pos
   have kW3 := kW2.trans k3
   have hTt := (hT.kp k2 sI).kp k3 sI
   have hsz3 := kW3.size
   refine zS ?_
   refine Zu [ptr q, ptr q2] rfl (by simp [Value.oneCell']) rfl dE dE ?_
   intro b w4 hb hu4
   have k4 : Kp [] w3 w4 := hu4.new oM
   have hr4 : Ja7 w4 (some ⟨b, 0, none⟩) [ptr q, ptr q2] := fun i v hv => by rw [Jc1, Nat.zero_add]; exact hu4.blk.cell hv
   refine Zc (Jj0 v 0 [] [(q, t), (q2, u)] hr4 (by simp; exact ⟨⟨_, _, hTt.kp k4 sI⟩, ⟨_, _, hT3.kp k4 sI⟩⟩) (by simp [sumS]; omega) sI) ?_
   rintro v' w5 ⟨p', rfl, hp', hB5, k5⟩
   have hs4 := k4.size
   refine zS ?_
   exact ⟨(m', .n2 v 0 [] t u, s3, p'), rfl, ⟨hrd, by dsimp only; omega, by dsimp only; omega, n2_at hTt hT3 (k4.trans k5) oM (hr4.kp k5 sI) (by dsimp only; omega) hB5, (hP3.kp k4 sI).kp k5 sI, (kW3.trans (k4.mono sI)).trans (k5.mono sI), by simp only [QT.size]; omega⟩, by dsimp only; omega⟩
end
section
theorem question_ok {n : Nat} (ih : ∀ m, m ≤ n → RdOk m 1 82) : RdOk (n + 1) 0 42 := by
 intro w p txt s hA hpg h htl hsl hn
 have hpl := Qb8 h.pb
 refine Zp Tryz.call42 Tryz.func42 ?_
 refine zS ?_
 refine Jz1 rfl rfl ?_
 intro mm w1 hmm hu0
 have k0 : Kp [] w w1 := hu0.new oM
 refine zS ?_
 refine Js1 (key := S (Ja3 19)) (v := I 19) rfl rfl rfl hu0.at_ rfl rfl rfl (.inl rfl) rfl rfl ?_
 intro w2 hu1
 have k1 : Kp [] w w2 := k0.since (hu1.kp [mm] (.inl sI)) (by simp; omega)
 refine zS ?_
 refine Jb7 (row_ret (lvl := 0) (n := n) (.inl rfl) ih (hA.kp k1 sI) hpg (h.kp k1 sI) htl hsl oM hu1.at_ oM) rfl rfl rfl (fun v w' hE => ?_) ?_
 ·obtain ⟨c1, i1, h1, h2, h3⟩ := hE
  exact ⟨c1, i1, h1, h2, (k1.mono sI).trans h3⟩
 rintro v w' ⟨t, s', h1, h2, h3, h4⟩
 obtain ⟨q, rfl, hT⟩ := h2
 refine zS ?_
 exact ⟨_, rfl, t, s', h1, ⟨q, rfl, hT⟩, h3, (k1.mono sI).trans h4⟩
theorem Qk1 {n : Nat} (ih : ∀ m, m ≤ n → RdOk m 2 123) : RdOk (n + 1) 1 82 := by
 intro w p txt s hA hpg h htl hsl hn
 have hpl := Qb8 h.pb
 refine Zp Tryz.call82 Tryz.func82 ?_
 refine zS ?_
 refine Jz1 rfl rfl ?_
 intro mm w1 hmm hu0
 have k0 : Kp [] w w1 := hu0.new oM
 refine zS ?_
 refine Js1 (key := S (Ja3 18)) (v := I 18) rfl rfl rfl hu0.at_ rfl rfl rfl (.inl rfl) rfl rfl ?_
 intro w2 hu1
 have k1 : Kp [] w w2 := k0.since (hu1.kp [mm] (.inl sI)) (by simp; omega)
 refine zS ?_
 refine Jb7 (row_ret (lvl := 1) (n := n) (.inr (.inl rfl)) ih (hA.kp k1 sI) hpg (h.kp k1 sI) htl hsl oM hu1.at_ oM) rfl rfl rfl (fun v w' hE => ?_) ?_
 ·obtain ⟨c1, i1, h1, h2, h3⟩ := hE
  exact ⟨c1, i1, h1, h2, (k1.mono sI).trans h3⟩
 rintro v w' ⟨t, s', h1, h2, h3, h4⟩
 obtain ⟨q, rfl, hT⟩ := h2
 refine zS ?_
 exact ⟨_, rfl, t, s', h1, ⟨q, rfl, hT⟩, h3, (k1.mono sI).trans h4⟩
theorem sum_ok {n : Nat} (ih : ∀ m, m ≤ n → RdOk m 4 184) : RdOk (n + 1) 3 157 := by
 intro w p txt s hA hpg h htl hsl hn
 have hpl := Qb8 h.pb
 refine Zp Tryz.call157 Tryz.func157 ?_
 refine zS ?_
 refine Jz1 rfl rfl ?_
 intro mm w1 hmm hu0
 have k0 : Kp [] w w1 := hu0.new oM
 refine zS ?_
 refine Js1 (key := S (Ja3 5)) (v := I 5) rfl rfl rfl hu0.at_ rfl rfl rfl (.inl rfl) rfl rfl ?_
 intro w2 hu1
 have k1 : Kp [] w w2 := k0.since (hu1.kp [mm] (.inl sI)) (by simp; omega)
 refine zS ?_
 refine Js1 (key := S (Ja3 6)) (v := I 6) rfl rfl rfl hu1.at_ rfl rfl rfl (.inl rfl) rfl rfl ?_
 intro w3 hu2
 have k2 : Kp [] w w3 := k1.since (hu2.kp [mm] (.inl sI)) (by simp; omega)
 refine zS ?_
 refine Jb7 (row_ret (lvl := 3) (n := n) (.inr (.inr (.inl rfl))) ih (hA.kp k2 sI) hpg (h.kp k2 sI) htl hsl oM hu2.at_ oM) rfl rfl rfl (fun v w' hE => ?_) ?_
 ·obtain ⟨c1, i1, h1, h2, h3⟩ := hE
  exact ⟨c1, i1, h1, h2, (k2.mono sI).trans h3⟩
 rintro v w' ⟨t, s', h1, h2, h3, h4⟩
 obtain ⟨q, rfl, hT⟩ := h2
 refine zS ?_
 exact ⟨_, rfl, t, s', h1, ⟨q, rfl, hT⟩, h3, (k2.mono sI).trans h4⟩
theorem term_ok {n : Nat} (ih : ∀ m, m ≤ n → RdOk m 5 197) : RdOk (n + 1) 4 184 := by
 intro w p txt s hA hpg h htl hsl hn
 have hpl := Qb8 h.pb
 refine Zp Tryz.call184 Tryz.func184 ?_
 refine zS ?_
 refine Jz1 rfl rfl ?_
 intro mm w1 hmm hu0
 have k0 : Kp [] w w1 := hu0.new oM
 refine zS ?_
 refine Js1 (key := S (Ja3 7)) (v := I 7) rfl rfl rfl hu0.at_ rfl rfl rfl (.inl rfl) rfl rfl ?_
 intro w2 hu1
 have k1 : Kp [] w w2 := k0.since (hu1.kp [mm] (.inl sI)) (by simp; omega)
 refine zS ?_
 refine Jb7 (row_ret (lvl := 4) (n := n) (.inr (.inr (.inr rfl))) ih (hA.kp k1 sI) hpg (h.kp k1 sI) htl hsl oM hu1.at_ oM) rfl rfl rfl (fun v w' hE => ?_) ?_
 ·obtain ⟨c1, i1, h1, h2, h3⟩ := hE
  exact ⟨c1, i1, h1, h2, (k1.mono sI).trans h3⟩
 rintro v w' ⟨t, s', h1, h2, h3, h4⟩
 obtain ⟨q, rfl, hT⟩ := h2
 refine zS ?_
 exact ⟨_, rfl, t, s', h1, ⟨q, rfl, hT⟩, h3, (k1.mono sI).trans h4⟩
end
section
variable {w : World} {p : Nat} {txt : List UInt8} {s : TS}
theorem Jx0 {n : Nat} : rd (n + 1) 2 s = if s.is (Ja3 17) then (adv s >>= fun s => rd n 2 s >>= fun x => .ok (.n1 17 0 [] x.1, x.2)) else (rd n 3 s >>= fun x => match Jk1 x.2 with
  | some op => adv x.2 >>= fun s => rd n 3 s >>= fun y => .ok (.n2 op 0 [] x.1 y.1, y.2)
  | none => .ok x) := by
 rw [rd]
 split
 ·rfl
 ·congr 1
theorem cmp_some {k : Nat} (h1 : 11 ≤ k) (h2 : k ≤ 16) (hk : s.is (Ja3 k) = true) (hj : ∀ j, 11 ≤ j → j < k → s.is (Ja3 j) = false) : Jk1 s = some k := by
 unfold Jk1
 have : k = 11 ∨ k = 12 ∨ k = 13 ∨ k = 14 ∨ k = 15 ∨ k = 16 := oM
 rcases this with rfl | rfl | rfl | rfl | rfl | rfl
 ·simp only [List.find?_cons, hk]
 ·simp only [List.find?_cons, hk, hj 11 oM oM]
 ·simp only [List.find?_cons, hk, hj 11 oM oM, hj 12 oM oM]
 ·simp only [List.find?_cons, hk, hj 11 oM oM, hj 12 oM oM, hj 13 oM oM]
 ·simp only [List.find?_cons, hk, hj 11 oM oM, hj 12 oM oM, hj 13 oM oM, hj 14 oM oM]
 ·simp only [List.find?_cons, hk, hj 11 oM oM, hj 12 oM oM, hj 13 oM oM, hj 14 oM oM, hj 15 oM oM]
theorem cmp_none (hj : ∀ j, 11 ≤ j → j < 17 → s.is (Ja3 j) = false) : Jk1 s = none := by
 unfold Jk1
 simp only [List.find?_cons, List.find?_nil, hj 11 oM oM, hj 12 oM oM, hj 13 oM oM, hj 14 oM oM, hj 15 oM oM, hj 16 oM oM]
theorem opWord_ne {k : Nat} (h1 : 3 ≤ k) (h2 : k ≤ 26) : Ja3 k ≠ [] := by
 have h : ∀ k ∈ List.range 27, 3 ≤ k → Ja3 k ≠ [] := dE
 exact h k (List.mem_range.2 oM) h1
theorem n1_at {w3 w5 : World} {q b p' : Nat} {t : QT} {op num : Int} {name : List UInt8} (ht : Jc3 zsh (p + 1) w3 t q) (k35 : Kp [] w3 w5) (hb : p + 1 ≤ b) (hr : Ja7 w5 (some ⟨b, 0, none⟩) [ptr q]) (hp' : p + 1 ≤ p')
  (hB : TBlk zsh w5 p' op (1 + sumS [(q, t)] : Nat) num name (.slice (some ⟨b, 0, none⟩) 1 1)) : Jc3 zsh (p + 1) w5 (.n1 op num name t) p' := by
 refine ⟨hp', some ⟨b, 0, none⟩, 1, q, ?_, hr, by simp [Ja1]; exact hb, ht.kp k35 sI⟩
 have e : 1 + sumS [(q, t)] = 1 + t.size := by simp [sumS]
 rw [e] at hB
 exact hB
theorem simple_ok {n : Nat} (ih2 : RdOk n 2 123) (ih3 : RdOk n 3 157) : RdOk (n + 1) 2 123 := by
 intro w p txt s hA hpg h htl hsl hn
 have hpl := Qb8 h.pb
 have hrd := Jx0 (n := n) (s := s)
 refine Zp Tryz.call123 Tryz.func123 ?_
 refine zS ?_
 refine Jb7 (Qn5 (word := Ja3 17) dE h htl) rfl rfl rfl (fun v w' hE => ?_) ?_
 ·obtain ⟨h0, c1, i1, h1, h2, h3⟩ := hE
  exact ⟨c1, i1, by rw [hrd, if_pos h0, h1]; rfl, h2, h3⟩
 rintro v w1 ⟨k1, ⟨h1, rfl, s1, h2, hP1⟩ | ⟨h1, rfl, hP1⟩⟩
 ·rw [if_pos h1, h2] at hrd
  have hrd : rd (n + 1) 2 s = (rd n 2 s1 >>= fun x => .ok (.n1 17 0 [] x.1, x.2)) := hrd
  have hl1 := Jo5 h1
  have hl2 := (Jd4 h2).1
  refine zS ?_
  refine Jb7 (ih2 (hA.kp k1 (by simpa using Ne.symm hpg)) hpg hP1 htl oM oM) rfl rfl rfl (fun v w' hE => ?_) ?_
  ·obtain ⟨c1, i1, g1, g2, g3⟩ := hE
   exact ⟨c1, i1, by rw [hrd, g1]; rfl, g2, k1.trans g3⟩
  rintro v w2 ⟨t, s2, h3, ⟨q, rfl, hT⟩, hP2, k2⟩
  rw [h3] at hrd
  have hz := (Ji1 n).1 _ _ _ _ h3
  have kW := k1.trans k2
  have hsz := kW.size
  refine zS ?_
  refine Zu [ptr q] rfl (by simp [Value.oneCell']) rfl dE dE ?_
  intro b w4 hb hu4
  have k4 : Kp [] w2 w4 := hu4.new oM
  have hr4 : Ja7 w4 (some ⟨b, 0, none⟩) [ptr q] := fun i v hv => by rw [Jc1, Nat.zero_add]; exact hu4.blk.cell hv
  refine Zc (Jj0 17 0 [] [(q, t)] hr4 (by simp; exact ⟨_, _, hT.kp k4 sI⟩) (by simp [sumS]; omega) sI) ?_
  rintro v' w5 ⟨p', rfl, hp', hB5, k5⟩
  have hs4 := k4.size
  refine zS ?_
  exact ⟨_, rfl, _, s2, hrd, ⟨p', rfl, n1_at hT (k4.trans k5) oM (hr4.kp k5 sI) oM hB5⟩, (hP2.kp k4 sI).kp k5 sI, (kW.trans (k4.mono sI)).trans (k5.mono sI)⟩
 ·rw [if_neg (by rw [h1]; simp)] at hrd
  refine zS ?_
  refine Jb7 (ih3 (hA.kp k1 (by simpa using Ne.symm hpg)) hpg hP1 htl oM oM) rfl rfl rfl (fun v w' hE => ?_) ?_
  ·obtain ⟨c1, i1, g1, g2, g3⟩ := hE
   exact ⟨c1, i1, by rw [hrd, g1]; rfl, g2, k1.trans g3⟩
  rintro v w2 ⟨t, s2, h3, ⟨q, rfl, hT⟩, hP2, k2⟩
  rw [h3] at hrd
  have hz := (Ji1 n).1 _ _ _ _ h3
  have htp := t.size_pos
  have kW := k1.trans k2
  have hsz := kW.size
  have hrd : rd (n + 1) 2 s = (match Jk1 s2 with
   | some op => adv s2 >>= fun s => rd n 3 s >>= fun y => .ok (.n2 op 0 [] t y.1, y.2)
   | none => .ok (t, s2)) := hrd
  refine zS ?_
  refine Jb4 (α := Nat) [0, 3, 4] (fun k => [ptr p, ptr q, I k]) (fun k W => 11 ≤ k ∧ k ≤ 17 ∧ Kp [p] w2 W ∧ PAt W p txt s2 ∧ ∀ j, 11 ≤ j → j < k → s2.is (Ja3 j) = false) (fun k => 17 - k) 11 rfl ⟨oM, oM, Kp.refl _ _, hP2, oM⟩ ?_
  rintro k e W ⟨hk1, hk2, kk, hPk, hj⟩
  refine zS ?_
  refine r_if rfl (fun hc => ?_) (fun hc => ?_)
  ·have hk3 : k ≤ 16 := oM
   refine zS ?_
   refine Zc Jt6 ?_
   rintro v w3 ⟨rfl, hr, k3⟩
   refine zS ?_
   refine o_loadc (v := S (Ja3 k)) rfl (by
    have h := hr (k * 6 + 0) _ (Jm9 (f := shO) (m := 6) (j := 0) shO_len (List.getElem?_range (show k < 27 by omega)) rfl)
    rw [Jc1] at h
    rw [← h]; congr 2) rfl rfl rfl rfl ?_
   have kk3 := kk.trans (k3.mono (S' := [p]) sI)
   refine Jb7 (Qn5 (word := Ja3 k) (opWord_ne oM oM) (hPk.kp k3 sI) htl) rfl rfl rfl (fun v w' hE => ?_) ?_
   ·obtain ⟨h0, c1, i1, g1, g2, g3⟩ := hE
    exact ⟨c1, i1, by rw [hrd, cmp_some hk1 hk3 h0 hj]; dsimp only; rw [g1]; rfl, g2, (kW.trans kk3).trans g3⟩
   rintro v w4 ⟨k4, ⟨g1, rfl, s4, g2, hP4⟩ | ⟨g1, rfl, hP4⟩⟩
   ·have hop := cmp_some hk1 hk3 g1 hj
    rw [hop] at hrd
    dsimp only at hrd
    rw [g2] at hrd
    have hrd : rd (n + 1) 2 s = (rd n 3 s4 >>= fun y => .ok (.n2 k 0 [] t y.1, y.2)) := hrd
    have hl1 := Jo5 g1
    have hl2 := (Jd4 g2).1
    have kW4 := (kW.trans kk3).trans k4
    refine zS ?_
    refine Jb7 (ih3 (hA.kp kW4 (by simpa using Ne.symm hpg)) hpg hP4 htl oM oM) rfl rfl rfl (fun v w' hE => ?_) ?_
    ·obtain ⟨c1, i1, g1, g2, g3⟩ := hE
     exact ⟨c1, i1, by rw [hrd, g1]; rfl, g2, kW4.trans g3⟩
    rintro v w5 ⟨u, s5, h5, ⟨q2, rfl, hT5⟩, hP5, k5⟩
    rw [h5] at hrd
    have hz5 := (Ji1 n).1 _ _ _ _ h5
    have hup := u.size_pos
    have hTt : Jc3 zsh (p + 1) w5 t q := (hT.kp (kk3.trans k4) sI).kp k5 sI
    have kW5 := kW4.trans k5
    have hsz5 := kW5.size
    refine zS ?_
    refine Zu [ptr q, ptr q2] rfl (by simp [Value.oneCell']) rfl dE dE ?_
    intro b w6 hb hu6
    have k6 : Kp [] w5 w6 := hu6.new oM
    have hr6 : Ja7 w6 (some ⟨b, 0, none⟩) [ptr q, ptr q2] := fun i v hv => by rw [Jc1, Nat.zero_add]; exact hu6.blk.cell hv
    refine Zc (Jj0 k 0 [] [(q, t), (q2, u)] hr6 (by simp; exact ⟨⟨_, _, hTt.kp k6 sI⟩, ⟨_, _, hT5.kp k6 sI⟩⟩) (by simp [sumS]; omega) sI) ?_
    rintro v' w7 ⟨p', rfl, hp', hB7, k7⟩
    have hs6 := k6.size
    refine zS ?_
    exact ⟨_, rfl, _, s5, hrd, ⟨p', rfl, n2_at hTt hT5 (k6.trans k7) oM (hr6.kp k7 sI) oM hB7⟩, (hP5.kp k6 sI).kp k7 sI, (kW5.trans (k6.mono sI)).trans (k7.mono sI)⟩
   ·refine zS ?_
    exact ⟨k + 1, rfl, ⟨oM, oM, kk3.trans k4, hP4, fun j h1 h2 => by
     by_cases c : j = k
     ·subst c; exact g1
     ·exact hj j h1 oM⟩, oM⟩
  ·have : k = 17 := oM
   subst this
   rw [cmp_none hj] at hrd
   refine zS ?_
   exact ⟨_, rfl, t, s2, hrd, ⟨q, rfl, hT.kp kk sI⟩, hPk, kW.trans kk⟩
end
end Go.Vc
