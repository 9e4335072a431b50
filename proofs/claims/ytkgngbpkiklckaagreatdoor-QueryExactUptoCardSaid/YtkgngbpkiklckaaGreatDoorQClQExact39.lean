/- Parts of a proof. -/
import Derived.Test.YtkgngbpkiklckaaGreatDoorQClQExact38
set_option maxHeartbeats 12800000
namespace Go.Vc
open Go Go.Proofs
set_option maxRecDepth 20000
section
variable {w : World}
theorem chosen_nil : Je8 [] = fun _ => 0 := rfl
theorem answer_12 : ∀ k : Nat, k < 27 → 1 ≤ k → Jb2 k = 1 ∨ Jb2 k = 2 := dE
theorem Qh4 {l : List QN} {ad pad ead : Option Addr} {cap pcap ecap : Nat} {s : Shp} {E : List Ev} {fuel : Int} (hR : Rows w ad cap l) (hp : Ja7 w pad (s.pa.map I)) (hpl : s.pa.length ≤ 1048576) (he : Ja7 w ead (evsC E)) (hel : E.length ≤ 1048576) :
  Ret Tryz.prog 35 [qV ad l.length cap, .agg ⟨shC s pad pcap⟩, .slice ead E.length ecap, I fuel] w (fun v w' => v = .tuple #[.agg ⟨repC (askM l s E fuel).1⟩, I (askM l s E fuel).2] ∧ Kp [] w w') := by
 have hm := hR.max_
 have hcl := hR.len
 refine Zd Tryz.call35 Tryz.func35 ?_
 refine zS ?_
 refine Zx ?_
 intro b4 w1 e4 hu1
 refine Zx ?_
 intro b5 w2 e5 hu2
 refine Za ?_
 intro b8 w3 e8 hu3
 have k1 : Kp [] w w1 := hu1.new oM
 have k2 : Kp [] w1 w2 := hu2.new oM
 have k3 : Kp [] w2 w3 := hu3.new oM
 have g4 : Blk w3 b4 [.slice ad l.length cap] 24 := (k2.trans k3).b0 hu1.blk
 have g5 : Blk w3 b5 (shC s pad pcap) 27 := k3.b0 hu2.blk
 have g8 : Blk w3 b8 (repC rep0) 45 := hu3.blk
 have k0 := (k1.trans k2).trans k3
 have y1 := k1.size
 have y2 := k2.size
 have n8 : w.heap.size ≤ b8 := oM
 clear hu1 hu2 hu3 k1 k2 k3
 have fin : ∀ {e : Env} {W W0 : World} {r : Rep} {x : Int}, e 8 = ptr b8 → e 9 = I x → Blk W b8 (repC r) 45 → Kp [] w W0 → Kp [b8] W0 W → askM l s E fuel = (r, x) → ∃ us, resC Tryz.prog e W [.cell 8 45, .tmp 9] us ∧ tupV us = .tuple #[.agg ⟨repC (askM l s E fuel).1⟩, I (askM l s E fuel).2] ∧ Kp [] w W := fun h1 h2 h3 h4 h5 h6 =>
  ⟨[.agg ⟨repC _⟩, I _], ⟨⟨_, h1, Jb9 h3 rfl rfl rfl rfl⟩, ⟨none, by rw [h2]; rfl⟩, trivial⟩, by rw [h6]; rfl, h4.since h5 (by simpa using n8)⟩
 have hask : askM l s E fuel = match Jh9 l with
  | .error c => (rep0, c)
  | .ok t => if Jp0 s E = 0 then fuelM (evq (qwO E (rnds s E E.length)) t fun _ => 0) (Jb2 t.op.toNat) fuel else (rep0, Jp0 s E) := rfl
 generalize askM l s E fuel = r at fin hask ⊢
 refine zS ?_
 refine Zm (vs := [.slice ad l.length cap]) rfl g4.cs ?_
 refine Zc (Qg5 (hR.kp k0 sI)) ?_
 rintro v w4 ⟨rfl, k4⟩
 have g4 := k4.b0 g4
 have g5 := k4.b0 g5
 have g8 := k4.b0 g8
 have k0 := k0.trans k4
 clear k4
 cases hl : Jh9 l with
 | error c =>
  rw [hl] at hask
  have hne := looked_err hl
  rw [show Js2 l = (0, c) from by unfold Js2; rw [hl]]
  refine zS ?_
  refine Jn8 rfl (fun _ => ?_) (fun h => absurd h hne)
  refine zS ?_
  refine Zb (repC rep0) ?_
  refine zS ?_
  refine Zs (b := b8) (cs := repC rep0) rfl g8 lR rfl (by simp [Value.oneCell', repC]) ?_
  intro w5 hu5
  refine zS ?_
  exact fin rfl rfl hu5.blk k0 (hu5.kp [b8] (.inl sI)) hask
 | ok t =>
  rw [hl] at hask
  dsimp only at hask
  obtain ⟨hw, hnm, hse⟩ : Jh1 l = some t ∧ Jd9 t [] = true ∧ Jd7 t = true := by
   unfold Jh9 at hl
   split at hl
   ·cases hl
   ·rename_i t' ht'
    split at hl
    ·cases hl
    ·rename_i q1
     split at hl
     ·cases hl
     ·rename_i q2
      cases hl
      exact ⟨ht', by simpa using q1, by simpa using q2⟩
  obtain ⟨hg, hlr, hd⟩ := Jm7 hR.num hw
  have hS : SubT l 0 t := ⟨[], by rw [List.drop_zero, List.append_nil]; exact hlr⟩
  have hop := Jm3 hg
  have hsl := hS.len
  rw [show Js2 l = (Jb2 t.op.toNat, 0) from by unfold Js2; rw [hl]]
  refine zS ?_
  refine Zm (vs := shC s pad pcap) rfl g5.cs ?_
  refine zS ?_
  refine Zc (r20New_ret (s := s) (l := E) (hp.kp k0 sI) hpl (he.kp k0 sI) hel) ?_
  rintro v w5 (⟨e, hbad, rfl, k5⟩ | ⟨hs, hn, hok, g, rfl, ho, k5, _⟩)
  ·obtain ⟨hor, hne⟩ := Ql7 hbad
   rw [hor, if_neg hne] at hask
   have g8 := k5.b0 g8
   refine zS ?_
   refine Jn8 rfl (fun _ => ?_) (fun h => absurd h hne)
   refine zS ?_
   refine Zb (repC rep0) ?_
   refine zS ?_
   refine Zs (b := b8) (cs := repC rep0) rfl g8 lR rfl (by simp [Value.oneCell', repC]) ?_
   intro w6 hu6
   refine zS ?_
   exact fin rfl rfl hu6.blk (k0.trans k5) (hu6.kp [b8] (.inl sI)) hask
  rw [Qi2 hs hn hok, if_pos rfl] at hask
  have g4 := k5.b0 g4
  have g8 := k5.b0 g8
  have k0 := k0.trans k5
  clear k5
  unfold fuelM at hask
  refine zS ?_
  refine Ja5 _ _ rfl rfl rfl (fun h1 => ?_) (fun h1 => ?_)
  ·have h1 : fuel < 0 := of_decide_eq_true h1
   rw [if_pos (.inl h1)] at hask
   refine zS ?_
   refine Zb (repC rep0) ?_
   refine Zs (b := b8) (cs := repC rep0) rfl g8 lR rfl (by simp [Value.oneCell', repC]) ?_
   intro w6 hu6
   refine zS ?_
   exact fin rfl rfl hu6.blk k0 (hu6.kp [b8] (.inl sI)) hask
  have h1 : ¬ fuel < 0 := of_decide_eq_false h1
  refine zS ?_
  refine r_if rfl (fun h2 => ?_) (fun h2 => ?_)
  ·rw [if_pos (.inr h2)] at hask
   refine zS ?_
   refine Zb (repC rep0) ?_
   refine Zs (b := b8) (cs := repC rep0) rfl g8 lR rfl (by simp [Value.oneCell', repC]) ?_
   intro w6 hu6
   refine zS ?_
   exact fin rfl rfl hu6.blk k0 (hu6.kp [b8] (.inl sI)) hask
  rw [if_neg oM] at hask
  obtain ⟨fn, rfl⟩ : ∃ fn : Nat, fuel = fn := ⟨fuel.toNat, oM⟩
  refine zS ?_
  refine Zm (vs := [.slice ad l.length cap]) rfl g4.cs ?_
  refine zS ?_
  refine Zb [.slice ad l.length cap, ptr g.p, .slice none 0 0, .slice none 0 0, I 0, I fn] ?_
  refine Zx ?_
  intro bp w6 ep hu6
  have l8 := g8.lt
  have y5 := k0.size
  have k6 : Kp [] w5 w6 := hu6.new oM
  have hK : (AkG.mk bp w5 g E (rnds s E E.length) l ad cap fn).Ok := ⟨hR.kp k0 sI, ho, by dsimp only; omega, by dsimp only; omega⟩
  have hA : AkO w6 (AkG.mk bp w5 g E (rnds s E E.length) l ad cap fn) [] 0 ⟨none, 0, none, 0⟩ := ⟨hu6.blk, k6, Jd6 _ _ _, Jd6 _ _ _, by simp [Ja1], by simp [Ja1]⟩
  have g8 := k6.b0 g8
  have z8 : b8 ≠ bp := oM
  have k0 := k0.trans k6
  clear hu6
  refine zS ?_
  refine Zc (ask30_ret hK t.size t (at_ := 0) lR hA hg hse hS oM oM (by simp; omega)) ?_
  rintro v w7 ⟨y, s', x', rfl, hto, q1, q2, q3⟩
  obtain ⟨g8, _⟩ := hto.blk g8 ⟨z8, by simp [NA.bl, Ja1]⟩
  have hd7 := hto.at_.hdr
  have k7 : Kp [] w w7 := (k0.since (S := [bp]) (hto.kp.mono (by intro b hb; simpa [NA.bl, Ja1] using hb)) (by intro b hb; rw [List.mem_singleton.1 hb]; omega))
  rw [chosen_nil] at q3
  dsimp only at q3 q2 hd7
  generalize hev : evq (qwO E (rnds s E E.length)) t (fun _ => 0) = a at q3 hask
  refine zL hd7 ?_
  refine r_if rfl (fun h3 => ?_) (fun h3 => ?_)
  ·have : (fn : Int) < a.2 := by rcases q3 with ⟨_, q4, q5⟩ | ⟨_, q4⟩ <;> omega
   rw [if_pos this] at hask
   refine zS ?_
   refine Zb (repC rep0) ?_
   refine Zs (b := b8) (cs := repC rep0) rfl g8 lR rfl (by simp [Value.oneCell', repC]) ?_
   intro w8 hu8
   refine zS ?_
   exact fin rfl rfl hu8.blk k7 (hu8.kp [b8] (.inl sI)) hask
  obtain ⟨q4, q5, q6⟩ := q3.resolve_right (fun q => oM)
  have hs' : s' = a.2 := oM
  rw [if_neg oM] at hask
  refine zS ?_
  refine r_if rfl (fun h4 => ?_) (fun h4 => ?_)
  ·have h4 : Jb2 t.op.toNat = 2 := h4
   rw [if_pos h4] at hask
   refine zL hd7 ?_
   refine Zb (repC ⟨2, 0, decide (y = 1), s'⟩) ?_
   refine Zs (b := b8) (cs := repC ⟨2, 0, decide (y = 1), s'⟩) rfl g8 lR rfl (by simp [Value.oneCell', repC]) ?_
   intro w8 hu8
   refine zS ?_
   exact fin rfl rfl hu8.blk k7 (hu8.kp [b8] (.inl sI)) (by rw [hask, q4, hs'])
  ·have h4 : ¬ Jb2 t.op.toNat = 2 := h4
   rw [if_neg h4] at hask
   have h5 : Jb2 t.op.toNat = 1 := (answer_12 _ oM oM).resolve_right h4
   rw [h5] at hask
   refine zL hd7 ?_
   refine Zb (repC ⟨1, y, false, s'⟩) ?_
   refine Zs (b := b8) (cs := repC ⟨1, y, false, s'⟩) rfl g8 lR rfl (by simp [Value.oneCell', repC]) ?_
   intro w8 hu8
   refine zS ?_
   exact fin rfl rfl hu8.blk k7 (hu8.kp [b8] (.inl sI)) (by rw [hask, q4, hs'])
end
end Go.Vc
namespace Go.Vc
def TS.toks : TS → List Tok
 | .stop _ => []
 | .bad _ => []
 | .tok t r => t :: r.toks
def TS.last : TS → TS
 | .tok _ r => r.last
 | s => s
def tsL (z : TS) : List Tok → TS
 | [] => z
 | t :: r => .tok t (tsL z r)
theorem tsL_toks : ∀ s : TS, tsL s.last s.toks = s
 | .stop _ => rfl
 | .bad _ => rfl
 | .tok t r => by rw [TS.toks, TS.last, tsL, tsL_toks r]
theorem toks_len : ∀ s : TS, s.toks.length = s.len
 | .stop _ => rfl
 | .bad _ => rfl
 | .tok t r => by rw [TS.toks, TS.len, List.length_cons, toks_len r]
theorem skipC {c : UInt8} {r : List UInt8} : Jl3 (c :: r) = if Jn2 c then Jl3 r + 1 else 0 := by
 unfold Jl3
 rw [List.takeWhile_cons]
 split <;> simp
theorem dropC {α : Type} {l : List α} {i : Nat} {c : α} (h : l[i]? = some c) : l.drop i = c :: l.drop (i + 1) := by
 rw [List.drop_eq_getElem_cons (List.getElem?_eq_some_iff.1 h).1, (List.getElem?_eq_some_iff.1 h).2]
theorem lex_blank {txt : List UInt8} {i : Nat} {c : UInt8} (h : txt[i]? = some c) (hb : Jn2 c = true) : lex txt i = lex txt (i + 1) := by
 have hi := (List.getElem?_eq_some_iff.1 h).1
 have e : i + Jl3 (txt.drop i) = i + 1 + Jl3 (txt.drop (i + 1)) := by
  rw [dropC h, skipC, if_pos hb]; omega
 rw [Jm5 (i := i) oM, Jm5 (i := i + 1) oM, e]
theorem lex_here {txt : List UInt8} {i : Nat} {c : UInt8} (h : txt[i]? = some c) (hb : Jn2 c = false) : lex txt i = match tok1 i (txt.drop i) with
  | none => .bad i
  | some t => .tok t (lex txt (i + t.text.length)) := by
 have hi := (List.getElem?_eq_some_iff.1 h).1
 have e : Jl3 (txt.drop i) = 0 := by rw [dropC h, skipC, if_neg (by rw [hb]; simp)]
 rw [Jm5 (i := i) oM, e, Nat.add_zero, dropC h]
 rfl
theorem lex_end (txt : List UInt8) : lex txt txt.length = .stop txt.length := by
 rw [Jm5 lR]
 simp [Jl3]
def Jf6 : List (List UInt8) := [[60, 61], [62, 61], [33, 61], [40], [41], [44], [58], [43], [45], [42], [60], [61], [62]]
theorem mark_find (l : List UInt8) : (Jf6.find? fun m => m.isPrefixOf l) = if Jc2 l = 0 then none else some (l.take (Jc2 l)) := by
 cases l with
 | nil => decide
 | cons c r =>
  by_cases h1 : c = 33
  ·subst h1
   cases r with
   | nil => decide
   | cons d r =>
    by_cases hd : d = 61
    ·subst hd; simp [Jf6, Jc2]
    ·have : ¬ (61 : UInt8) = d := fun q => hd q.symm
     simp [Jf6, Jc2, hd, this]
  by_cases h2 : c = 60
  ·subst h2
   cases r with
   | nil => decide
   | cons d r =>
    by_cases hd : d = 61
    ·subst hd; simp [Jf6, Jc2]
    ·have : ¬ (61 : UInt8) = d := fun q => hd q.symm
     simp [Jf6, Jc2, hd, this]
  by_cases h3 : c = 62
  ·subst h3
   cases r with
   | nil => decide
   | cons d r =>
    by_cases hd : d = 61
    ·subst hd; simp [Jf6, Jc2]
    ·have : ¬ (61 : UInt8) = d := fun q => hd q.symm
     simp [Jf6, Jc2, hd, this]
  by_cases h4 : c = 40
  ·subst h4; simp [Jf6, Jc2]
  by_cases h5 : c = 41
  ·subst h5; simp [Jf6, Jc2]
  by_cases h6 : c = 44
  ·subst h6; simp [Jf6, Jc2]
  by_cases h7 : c = 58
  ·subst h7; simp [Jf6, Jc2]
  by_cases h8 : c = 43
  ·subst h8; simp [Jf6, Jc2]
  by_cases h9 : c = 45
  ·subst h9; simp [Jf6, Jc2]
  by_cases h10 : c = 42
  ·subst h10; simp [Jf6, Jc2]
  by_cases h11 : c = 61
  ·subst h11; simp [Jf6, Jc2]
  have q1 : ¬ (33 : UInt8) = c := fun q => h1 q.symm
  have q2 : ¬ (60 : UInt8) = c := fun q => h2 q.symm
  have q3 : ¬ (62 : UInt8) = c := fun q => h3 q.symm
  have q4 : ¬ (40 : UInt8) = c := fun q => h4 q.symm
  have q5 : ¬ (41 : UInt8) = c := fun q => h5 q.symm
  have q6 : ¬ (44 : UInt8) = c := fun q => h6 q.symm
  have q7 : ¬ (58 : UInt8) = c := fun q => h7 q.symm
  have q8 : ¬ (43 : UInt8) = c := fun q => h8 q.symm
  have q9 : ¬ (45 : UInt8) = c := fun q => h9 q.symm
  have q10 : ¬ (42 : UInt8) = c := fun q => h10 q.symm
  have q11 : ¬ (61 : UInt8) = c := fun q => h11 q.symm
  simp [Jf6, Jc2, h1, h2, h3, h4, h5, h6, h7, h8, h9, h10, h11, q1, q2, q3, q4, q5, q6, q7, q8, q9, q10, q11]
end Go.Vc

namespace Go.Vc
open Go Go.Proofs
set_option maxRecDepth 20000
section
variable {w : World}
theorem Qe3 (c : UInt8) : Ret Tryz.prog 143 [Y c] w (fun v w' => v = .bool (Jb0 c) ∧ w' = w) := by
 rw [Qa8]
 refine Ze Tryz.call143 Tryz.func143 ?_
 refine zS ?_
 refine Ja5 _ _ rfl rfl rfl (fun h => ?_) (fun h => ?_)
 ·refine zS ?_
  exact ⟨_, rfl, by rw [h]; rfl, rfl⟩
 ·refine zS ?_
  exact ⟨_, rfl, by rw [h]; rfl, rfl⟩
theorem Jv1 (c : UInt8) : Ret Tryz.prog 144 [Y c] w (fun v w' => v = .bool (Jb3 c) ∧ w' = w) := by
 rw [Js5]
 refine Ze Tryz.call144 Tryz.func144 ?_
 refine zS ?_
 refine Ja5 _ _ rfl rfl rfl (fun h => ?_) (fun h => ?_)
 ·refine zS ?_
  exact ⟨_, rfl, by rw [h]; rfl, rfl⟩
 ·refine zS ?_
  exact ⟨_, rfl, by rw [h]; rfl, rfl⟩
def digV (D : List UInt8) : Int := match Ji3 0 D with
 | some n => (n : Int)
 | none => -1
theorem digits30_ret {txt : List UInt8} {q : Nat} (hq : q ≤ txt.length) (htl : txt.length ≤ 4096) : Ret Tryz.prog 145 [S txt, I q] w (fun v w' => v = .tuple #[I (digV ((txt.drop q).takeWhile Jb3)), I (q + ((txt.drop q).takeWhile Jb3).length : Nat)] ∧ w' = w) := by
 have hm := tw_le (f := Jb3) (l := txt.drop q)
 rw [List.length_drop] at hm
 have htake : (txt.drop q).takeWhile Jb3 = (txt.drop q).take ((txt.drop q).takeWhile Jb3).length := List.prefix_iff_eq_take.1 (List.takeWhile_prefix _)
 have hat : ∀ j, j < ((txt.drop q).takeWhile Jb3).length → ((txt.drop q).takeWhile Jb3).getD j 0 = txt.getD (q + j) 0 := fun j hj => by
  rw [htake, List.getD_eq_getElem?_getD, List.getElem?_take_of_lt hj, List.getElem?_drop, ← List.getD_eq_getElem?_getD]
 have hrunD := fun (r : Nat) (h1 : q ≤ r) (h2 : r ≤ q + ((txt.drop q).takeWhile Jb3).length) => run_lt (f := Jb3) (txt := txt) h1 h2 hq
 generalize hDD : (txt.drop q).takeWhile Jb3 = D at hm htake hat hrunD
 clear htake hDD
 refine Ze Tryz.call145 Tryz.func145 ?_
 refine zS ?_
 refine Jb4 (α := Nat × Int) [0, 1, 6] (fun x => [S txt, I x.1, I x.2]) (fun x W => q ≤ x.1 ∧ x.1 ≤ q + D.length ∧ W = w ∧ ((∃ k : Nat, x.2 = k ∧ k ≤ 9223372036854775807 ∧ Ji3 0 D = Ji3 k (D.drop (x.1 - q))) ∨ (x.2 = -1 ∧ Ji3 0 D = none))) (fun x => q + D.length - x.1) (q, 0) rfl ⟨lR, by dsimp only; omega, rfl, .inl ⟨0, rfl, oM, sI⟩⟩ ?_
 rintro ⟨r, n⟩ e W ⟨hr1, hr2, rfl, hn⟩
 dsimp only at hr1 hr2 hn ⊢
 have hrun := hrunD r hr1 hr2
 have fin : ¬ r < q + D.length → digV D = n ∧ r = q + D.length := fun h => by
  have hr : r = q + D.length := oM
  refine ⟨?_, hr⟩
  unfold digV
  rcases hn with ⟨k, rfl, _, h2⟩ | ⟨rfl, h2⟩
  ·rw [h2, hr, show q + D.length - q = D.length by omega, List.drop_length]; rfl
  ·rw [h2]
 refine zS ?_
 refine Ja5 _ _ rfl rfl rfl (fun h1 => ?_) (fun h1 => ?_)
 ·have h1 : (r : Int) < txt.length := of_decide_eq_true h1
  refine zS ?_
  refine Zc (Jv1 (txt.getD r 0)) ?_
  rintro v w1 ⟨rfl, rfl⟩
  refine zS ?_
  refine Je1 rfl (fun hd => ?_) (fun hd => ?_)
  ·have hlt := hrun.2 ⟨oM, hd⟩
   have hdrop : D.drop (r - q) = txt.getD r 0 :: D.drop (r + 1 - q) := by
    have h5 := List.drop_eq_getElem_cons (l := D) (i := r - q) oM
    have h6 := hat (r - q) oM
    rw [List.getD_eq_getElem?_getD, List.getElem?_eq_getElem oM, show q + (r - q) = r by omega] at h6
    rw [h5, show r + 1 - q = r - q + 1 by omega, ← h6]; rfl
   rw [Js5, Bool.and_eq_true, decide_eq_true_eq, decide_eq_true_eq] at hd
   obtain ⟨d, hd9, hcd⟩ : ∃ d : Nat, d ≤ 9 ∧ (txt.getD r 0).toNat = d + 48 := ⟨(txt.getD r 0).toNat - 48, oM, oM⟩
   have hacc2 : ∀ k : Nat, Ji3 k (D.drop (r - q)) = if k ≤ (9223372036854775807 - d) / 10 then Ji3 (10 * k + d) (D.drop (r + 1 - q)) else none := fun k => by
    rw [hdrop, Ji3, show (txt.getD r 0).toNat - 48 = d by omega]
   have hw : IntKind.u8.wrap (((txt.getD r 0).toNat : Int) - 48) = d := by rw [wu8 oM]; omega
   refine zS ?_
   refine zo rfl rfl (by simp only [AllP, Ja2, hw]; omega) ?_
   rw [Ja2, hw]
   refine zS ?_
   rw [Int.tdiv_eq_ediv_of_nonneg oM]
   rcases hn with ⟨k, rfl, hk, hacc⟩ | ⟨rfl, hacc⟩
   ·rw [hacc2] at hacc
    refine r_if rfl (fun ho => ?_) (fun ho => ?_)
    ·rw [if_neg oM] at hacc
     refine zS ?_
     exact ⟨(r + 1, -1), rfl, ⟨by dsimp only; omega, by dsimp only; omega, rfl, .inr ⟨rfl, hacc⟩⟩, by dsimp only; omega⟩
    ·rw [if_pos oM] at hacc
     refine zS ?_
     exact ⟨(r + 1, ((10 * k + d : Nat) : Int)), rfl, ⟨by dsimp only; omega, by dsimp only; omega, rfl, .inl ⟨10 * k + d, rfl, oM, hacc⟩⟩, by dsimp only; omega⟩
   ·refine r_no rfl (decide_eq_false oM) ?_
    refine zS ?_
    exact ⟨(r + 1, -1), rfl, ⟨by dsimp only; omega, by dsimp only; omega, rfl, .inr ⟨rfl, hacc⟩⟩, by dsimp only; omega⟩
  ·obtain ⟨f1, f2⟩ := fin (fun h => by rw [(hrun.1 h).2] at hd; cases hd)
   rw [f1, ← f2]
   refine zS ?_
   exact ⟨_, rfl, rfl, rfl⟩
 ·have h1 : ¬ (r : Int) < txt.length := of_decide_eq_false h1
  obtain ⟨f1, f2⟩ := fin (fun h => by have := (hrun.1 h).1; omega)
  rw [f1, ← f2]
  refine zS ?_
  exact ⟨_, rfl, rfl, rfl⟩
theorem marks30_ret : Ret Tryz.prog 146 [] w (fun v w' => ∃ b, v = .slice (some ⟨b, 0, none⟩) 13 13 ∧ Blk w' b (Jf6.map S) 9 ∧ Kp [] w w') := by
 refine Ze Tryz.call146 Tryz.func146 ?_
 refine zS ?_
 refine Zn (Jf6.map S) rfl rfl rfl kR ?_
 intro b w1 hb hu1
 refine zS ?_
 exact ⟨_, rfl, b, rfl, hu1.blk, hu1.new oM⟩
def tkI (t : Tok) : Int := if 0 ≤ t.num then 2 else if Jb0 (t.text.getD 0 0) then 1 else 3
def tkC (t : Tok) : List Value := [I (tkI t), S t.text, I (if 0 ≤ t.num then t.num else 0), I t.at_]
def tk0 : List Value := [I 0, S [], I 0, I 0]
def takeV (r : Option Tok) (q : Nat) : Value := match r with
 | some t => .tuple #[.agg ⟨tkC t⟩, I (q + t.text.length : Nat)]
 | none => .tuple #[.agg ⟨tk0⟩, I q]
theorem take30_ret {txt : List UInt8} {q : Nat} {c : UInt8} (hc : txt[q]? = some c) (htl : txt.length ≤ 4096) : Ret Tryz.prog 107 [S txt, I q] w (fun v w' => v = takeV (tok1 q (txt.drop q)) q ∧ Kp [] w w') := by
 have hq := (List.getElem?_eq_some_iff.1 hc).1
 have hgc : txt.getD q 0 = c := by rw [List.getD_eq_getElem?_getD, hc]; rfl
 have hdc := dropC hc
 refine Zd Tryz.call107 Tryz.func107 ?_
 refine zS ?_
 refine Za ?_
 intro b4 w1 e4 hu1
 have k1 : Kp [] w w1 := hu1.new oM
 have g4 : Blk w1 b4 tk0 215 := hu1.blk
 have n4 : w.heap.size ≤ b4 := oM
 clear hu1
 have fin : ∀ {e : Env} {W : World} {cs : List Value} {i : Int}, e 4 = ptr b4 → e 5 = I i → Blk W b4 cs 215 → cs.length = 4 → resC Tryz.prog e W [.cell 4 215, .tmp 5] [.agg ⟨cs⟩, I i] := fun h1 h2 h3 h4 => ⟨⟨_, h1, Jb9 h3 rfl rfl rfl (by rw [h4]; rfl)⟩, ⟨none, by rw [h2]; rfl⟩, trivial⟩
 refine zS ?_
 rw [Ja2, hgc]
 refine Zc (Qe3 c) ?_
 rintro v w2 ⟨rfl, rfl⟩
 cases hl : Jb0 c with
 | true =>
  have hm := tw_le (f := fun c => Jb0 c || Jb3 c) (l := txt.drop q)
  rw [List.length_drop] at hm
  have htake : (txt.drop q).takeWhile (fun c => Jb0 c || Jb3 c) = (txt.drop q).take ((txt.drop q).takeWhile (fun c => Jb0 c || Jb3 c)).length := List.prefix_iff_eq_take.1 (List.takeWhile_prefix _)
  have htok : tok1 q (txt.drop q) = some ⟨(txt.drop q).takeWhile (fun c => Jb0 c || Jb3 c), -1, q⟩ := by
   rw [hdc, tok1, if_pos hl, List.takeWhile_cons, if_pos (by rw [hl]; rfl)]
  have hrun := fun (r : Nat) (h1 : q ≤ r) (h2 : r ≤ q + ((txt.drop q).takeWhile (fun c => Jb0 c || Jb3 c)).length) => run_lt (f := fun c => Jb0 c || Jb3 c) (txt := txt) h1 h2 oM
  have hhd : ((txt.drop q).takeWhile (fun c => Jb0 c || Jb3 c)).getD 0 0 = c := by rw [hdc, List.takeWhile_cons, if_pos (by rw [hl]; rfl)]; rfl
  rw [htok]
  generalize (txt.drop q).takeWhile (fun c => Jb0 c || Jb3 c) = D at hm htake hrun hhd ⊢
  have htk : tkC ⟨D, -1, q⟩ = [I 1, S D, I 0, I q] := by
   have h : ¬ (0 : Int) ≤ -1 := oM
   simp only [tkC, tkI, h, if_false, hhd, hl, if_true]
  have hV : takeV (some ⟨D, -1, q⟩) q = .tuple #[.agg ⟨[I 1, S D, I 0, I q]⟩, I (q + D.length : Nat)] := by show Value.tuple #[.agg ⟨tkC ⟨D, -1, q⟩⟩, I (q + D.length : Nat)] = _; rw [htk]
  rw [hV]
  refine zS ?_
  refine Jb4 (α := Nat) [0, 1, 4, 5, 6] (fun r => [S txt, I q, ptr b4, I 0, I r]) (fun r W => q ≤ r ∧ r ≤ q + D.length ∧ W = w2) (fun r => q + D.length - r) q rfl ⟨lR, oM, rfl⟩ ?_
  rintro r e W ⟨hr1, hr2, rfl⟩
  have hrr := hrun r hr1 hr2
  have out : ¬ r < q + D.length → (txt.take r).drop q = D ∧ r = q + D.length := fun h => by
   have hr : r = q + D.length := oM
   refine ⟨?_, hr⟩
   rw [hr, List.drop_take, show q + D.length - q = D.length by omega, ← htake]
  have last : ¬ r < q + D.length → ∀ {e : Env} {W' : World}, e 4 = ptr b4 → e 5 = I r → Blk W' b4 [I 1, S ((txt.take r).drop q), I 0, I q] 215 → Kp [b4] W W' → ∃ us, resC Tryz.prog e W' [.cell 4 215, .tmp 5] us ∧ tupV us = .tuple #[.agg ⟨[I 1, S D, I 0, I q]⟩, I (q + D.length : Nat)] ∧ Kp [] w W' := fun h _ _ h1 h2 h3 h4 => by
   obtain ⟨f1, f2⟩ := out h
   rw [f1] at h3
   exact ⟨_, fin h1 h2 h3 rfl, by rw [f2]; rfl, k1.since h4 (by simpa using n4)⟩
  refine zS ?_
  refine Ja5 _ _ rfl rfl rfl (fun h1 => ?_) (fun h1 => ?_)
  ·have h1 : (r : Int) < txt.length := of_decide_eq_true h1
   refine zS ?_
   rw [Ja2]
   refine Zc (Qe3 (txt.getD r 0)) ?_
   rintro v w2 ⟨rfl, rfl⟩
   cases hl2 : Jb0 (txt.getD r 0) with
   | true =>
    have := hrr.2 ⟨oM, by rw [hl2]; rfl⟩
    refine zS ?_
    exact ⟨r + 1, rfl, ⟨oM, oM, rfl⟩, oM⟩
   | false =>
    refine zS ?_
    rw [Ja2]
    refine Zc (Jv1 (txt.getD r 0)) ?_
    rintro v w2 ⟨rfl, rfl⟩
    cases hd2 : Jb3 (txt.getD r 0) with
    | true =>
     have := hrr.2 ⟨oM, by rw [hl2, hd2]; rfl⟩
     refine zS ?_
     exact ⟨r + 1, rfl, ⟨oM, oM, rfl⟩, oM⟩
    | false =>
     refine zS ?_
     refine Zb [I 1, S ((txt.take r).drop q), I 0, I q] ?_
     refine zS ?_
     refine Zs (b := b4) (cs := [I 1, S ((txt.take r).drop q), I 0, I q]) rfl g4 lR rfl (by simp [Value.oneCell']) ?_
     intro w3 hu3
     refine zS ?_
     exact last (fun h => by have := (hrr.1 h).2; rw [hl2, hd2] at this; cases this) rfl rfl hu3.blk (hu3.kp [b4] (.inl sI))
  ·have h1 : ¬ (r : Int) < txt.length := of_decide_eq_false h1
   refine zS ?_
   refine Zb [I 1, S ((txt.take r).drop q), I 0, I q] ?_
   refine zS ?_
   refine Zs (b := b4) (cs := [I 1, S ((txt.take r).drop q), I 0, I q]) rfl g4 lR rfl (by simp [Value.oneCell']) ?_
   intro w3 hu3
   refine zS ?_
   exact last (fun h => by have := (hrr.1 h).1; omega) rfl rfl hu3.blk (hu3.kp [b4] (.inl sI))
 | false =>
 refine zS ?_
 rw [Ja2, hgc]
 refine Zc (Jv1 c) ?_
 rintro v w3 ⟨rfl, rfl⟩
 have zero : ∀ {e : Env} {W' : World}, tok1 q (txt.drop q) = none → e 4 = ptr b4 → e 5 = I q → Blk W' b4 tk0 215 → Kp [] w W' → ∃ us, resC Tryz.prog e W' [.cell 4 215, .tmp 5] us ∧ tupV us = takeV (tok1 q (txt.drop q)) q ∧ Kp [] w W' := fun h h1 h2 h3 h4 => ⟨_, fin h1 h2 h3 rfl, by rw [h]; rfl, h4⟩
 cases hd : Jb3 c with
 | true =>
  have htok : tok1 q (txt.drop q) = (Ji3 0 ((txt.drop q).takeWhile Jb3)).map fun (n : Nat) => (⟨(txt.drop q).takeWhile Jb3, (n : Int), q⟩ : Tok) := by
   rw [hdc, tok1, if_neg (by rw [hl]; simp), if_pos hd, List.takeWhile_cons, if_pos hd]
  have htake : (txt.drop q).takeWhile Jb3 = (txt.drop q).take ((txt.drop q).takeWhile Jb3).length := List.prefix_iff_eq_take.1 (List.takeWhile_prefix _)
  have hm := tw_le (f := Jb3) (l := txt.drop q)
  rw [List.length_drop] at hm
  refine zS ?_
  refine Zc (digits30_ret (txt := txt) (q := q) oM htl) ?_
  rintro v w4 ⟨rfl, rfl⟩
  generalize (txt.drop q).takeWhile Jb3 = D at htok htake hm ⊢
  cases hn : Ji3 0 D with
  | none =>
   rw [hn] at htok
   rw [show digV D = -1 from by unfold digV; rw [hn]]
   refine zS ?_
   refine Zb tk0 ?_
   refine zS ?_
   refine Zs (b := b4) (cs := tk0) rfl g4 lR rfl (by simp [Value.oneCell', tk0]) ?_
   intro w5 hu5
   refine zS ?_
   exact zero htok rfl rfl hu5.blk (k1.since (hu5.kp [b4] (.inl sI)) (by simpa using n4))
  | some n =>
   rw [hn] at htok
   have hsl : (txt.take (q + D.length)).drop q = D := by rw [List.drop_take, show q + D.length - q = D.length by omega, ← htake]
   have htk : tkC ⟨D, n, q⟩ = [I 2, S D, I n, I q] := by
    have h : (0 : Int) ≤ n := oM
    simp only [tkC, tkI, h, if_true]
   rw [show digV D = n from by unfold digV; rw [hn]]
   refine zS ?_
   refine Zb [I 2, S ((txt.take (q + D.length)).drop q), I n, I q] ?_
   refine zS ?_
   refine Zs (b := b4) (cs := [I 2, S ((txt.take (q + D.length)).drop q), I n, I q]) rfl g4 lR rfl (by simp [Value.oneCell']) ?_
   intro w5 hu5
   have h5 := hu5.blk
   rw [hsl] at h5
   refine zS ?_
   refine ⟨_, fin rfl rfl h5 rfl, ?_, k1.since (hu5.kp [b4] (.inl sI)) (by simpa using n4)⟩
   rw [htok]
   show _ = Value.tuple #[.agg ⟨tkC ⟨D, n, q⟩⟩, I (q + D.length : Nat)]
   rw [htk]; rfl
 | false =>
  have htok : tok1 q (txt.drop q) = if Jc2 (txt.drop q) = 0 then none else some ⟨(txt.drop q).take (Jc2 (txt.drop q)), -1, q⟩ := by
   rw [hdc, tok1, if_neg (by rw [hl]; simp), if_neg (by rw [hd]; simp)]
  have hmk := mark_find (txt.drop q)
  refine zS ?_
  refine Zc marks30_ret ?_
  rintro v w4 ⟨b9, rfl, g9, k4⟩
  have g4 := k4.b0 g4
  have k0 := k1.trans k4
  have hml : Jf6.length = 13 := rfl
  refine zS ?_
  refine Jb4 (α := Nat) [0, 1, 4, 5, 9, 10] (fun i => [S txt, I q, ptr b4, I 0, .slice (some ⟨b9, 0, none⟩) 13 13, I i]) (fun i W => i ≤ 13 ∧ Kp [] w4 W ∧ ∀ m ∈ Jf6.take i, m.isPrefixOf (txt.drop q) = false) (fun i => 13 - i) 0 rfl ⟨Nat.zero_le _, Kp.refl _ _, sI⟩ ?_
  rintro i e W ⟨hi, kW, hno⟩
  have g9 := kW.b0 g9
  have g4 := kW.b0 g4
  have k0 := k0.trans kW
  refine zS ?_
  refine r_if rfl (fun h1 => ?_) (fun h1 => ?_)
  ·obtain ⟨m, hm⟩ : ∃ m, Jf6[i]? = some m := ⟨_, List.getElem?_eq_getElem oM⟩
   have hmm := List.mem_of_getElem? hm
   have hm2 : 1 ≤ m.length ∧ m.length ≤ 2 := by
    have key : ∀ m ∈ Jf6, 1 ≤ m.length ∧ m.length ≤ 2 := dE
    exact key m hmm
   have hcell : (Jf6.map S)[i]? = some (S m) := by rw [List.getElem?_map, hm]; rfl
   have next : m.isPrefixOf (txt.drop q) = false → ∀ z ∈ Jf6.take (i + 1), z.isPrefixOf (txt.drop q) = false := fun h z hz => by
    rw [List.take_add_one, hm] at hz
    rcases List.mem_append.1 hz with hz | hz
    ·exact hno z hz
    ·rw [show z = m by simpa using hz]; exact h
   refine zS ?_
   refine Jf4 rfl g9 (v := S m) (by rw [Ja2, Nat.zero_add]; exact hcell) rfl rfl rfl rfl ?_
   refine zS ?_
   refine Ja9 ?_
   refine Jc9 Ja0 kR ?_
   refine zQ ?_
   by_cases hle : (q : Int) + m.length ≤ txt.length
   ·rw [decide_eq_true hle]
    refine zQ ?_
    refine Zq (v := S m) rfl (fun w' h' => (h'.b0 g9).cell (by rw [Ja2, Nat.zero_add]; exact hcell)) ?_
    refine zQ ?_
    intro w' hs'
    have g4 := hs'.b0 g4
    have g9 := hs'.b0 g9
    refine r_if rfl (fun h2 => ?_) (fun h2 => ?_)
    ·have hmt : (txt.drop q).take m.length = m := by
      have h2 : (txt.take ((q : Int) + m.length).toNat).drop (q : Int).toNat = m := h2
      rw [show ((q : Int) + m.length).toNat = q + m.length by omega, Ja2, List.drop_take, show q + m.length - q = m.length by omega] at h2
      exact h2
     have hpre : m.isPrefixOf (txt.drop q) = true := by rw [List.isPrefixOf_iff_prefix, List.prefix_iff_eq_take]; exact hmt.symm
     have hfind : (Jf6.find? fun z => z.isPrefixOf (txt.drop q)) = some m := by
      conv => lhs; rw [← List.take_append_drop i Jf6]
      rw [List.find?_append, List.find?_eq_none.2 (fun z hz => by rw [hno z hz]; simp), Option.none_or, dropC hm]
      exact List.find?_cons_of_pos hpre
     rw [hfind] at hmk
     have hnz : Jc2 (txt.drop q) ≠ 0 := fun h => by rw [if_pos h] at hmk; cases hmk
     rw [if_neg hnz] at hmk htok
     rw [← Option.some.inj hmk] at htok
     have hh : m.getD 0 0 = c := by
      rw [← hmt, hdc, List.getD_eq_getElem?_getD, List.getElem?_take_of_lt oM]; rfl
     have htk : tkC ⟨m, -1, q⟩ = [I 3, S m, I 0, I q] := by
      have h : ¬ (0 : Int) ≤ -1 := oM
      simp only [tkC, tkI, h, if_false, hh, hl, Bool.false_eq_true]
     refine zS ?_
     refine Jf4 rfl g9 (v := S m) (by rw [Ja2, Nat.zero_add]; exact hcell) rfl rfl rfl rfl ?_
     refine Zr ?_
     refine Zb [I 3, S m, I 0, I q] ?_
     refine zS ?_
     refine Zs (b := b4) (cs := [I 3, S m, I 0, I q]) rfl g4 lR rfl (by simp [Value.oneCell']) ?_
     intro w5 hu5
     refine zS ?_
     refine ⟨_, fin rfl rfl hu5.blk rfl, ?_, (k0.trans hs').since (hu5.kp [b4] (.inl sI)) (by simpa using n4)⟩
     rw [htok]
     show _ = Value.tuple #[.agg ⟨tkC ⟨m, -1, q⟩⟩, I (q + m.length : Nat)]
     rw [htk]; rfl
    ·have hpre : m.isPrefixOf (txt.drop q) = false := by
      rw [Bool.eq_false_iff]
      intro h
      rw [List.isPrefixOf_iff_prefix, List.prefix_iff_eq_take] at h
      refine h2 ?_
      show (txt.take ((q : Int) + m.length).toNat).drop (q : Int).toNat = m
      rw [show ((q : Int) + m.length).toNat = q + m.length by omega, Ja2, List.drop_take, show q + m.length - q = m.length by omega]
      exact h.symm
     refine zS ?_
     exact ⟨i + 1, rfl, ⟨oM, kW.trans hs', next hpre⟩, oM⟩
   ·rw [decide_eq_false hle]
    refine zQ ?_
    intro w' hs'
    have hpre : m.isPrefixOf (txt.drop q) = false := by
     rw [Bool.eq_false_iff]
     intro h
     rw [List.isPrefixOf_iff_prefix] at h
     have := h.length_le
     rw [List.length_drop] at this
     omega
    refine zS ?_
    exact ⟨i + 1, rfl, ⟨oM, kW.trans hs', next hpre⟩, oM⟩
  ·obtain rfl : i = 13 := oM
   rw [show Jf6.take 13 = Jf6 from rfl] at hno
   have hz : Jc2 (txt.drop q) = 0 := by
    rw [List.find?_eq_none.2 (fun z hz => by rw [hno z hz]; simp)] at hmk
    by_cases h : Jc2 (txt.drop q) = 0
    ·exact h
    ·rw [if_neg h] at hmk; cases hmk
   rw [if_pos hz] at htok
   refine zS ?_
   refine Zb tk0 ?_
   refine zS ?_
   refine Zs (b := b4) (cs := tk0) rfl g4 lR rfl (by simp [Value.oneCell', tk0]) ?_
   intro w5 hu5
   refine zS ?_
   exact zero htok rfl rfl hu5.blk (k0.since (hu5.kp [b4] (.inl sI)) (by simpa using n4))
def badI : TS → Int
 | .bad i => i
 | .tok _ r => badI r
 | .stop _ => -1
theorem Jp4 (c : UInt8) : Jn2 c = true ↔ c.toNat = 32 ∨ c.toNat = 9 ∨ c.toNat = 10 ∨ c.toNat = 13 := by
 have key : ∀ n : UInt8, (c = n ↔ c.toNat = n.toNat) := fun n => UInt8.toNat_inj.symm
 unfold Jn2
 simp only [Bool.or_eq_true, decide_eq_true_eq, key]
 rw [or_assoc, or_assoc]; exact Iff.rfl
theorem tkI_ne (t : Tok) : tkI t ≠ 0 := by
 unfold tkI; split
 ·omega
 ·split <;> omega
theorem tkC_one (t : Tok) : ∀ v ∈ tkC t, v.oneCell' = true := by
 intro v hv
 simp only [tkC, List.mem_cons, List.not_mem_nil, or_false] at hv
 rcases hv with rfl | rfl | rfl | rfl <;> rfl
theorem tokens30_ret (txt : List UInt8) (htl : txt.length ≤ 4096) : Ret Tryz.prog 61 [S txt] w (fun v w' => ∃ ad cap, v = .tuple #[.slice ad (lex txt 0).toks.length cap, I (badI (lex txt 0))] ∧ OwnS w' 215 4 ad (lex txt 0).toks.length cap ((lex txt 0).toks.flatMap tkC) ∧ Kp [] w w' ∧ ∀ b, b ∈ Ja1 ad → w.heap.size ≤ b) := by
 refine Ze Tryz.call61 Tryz.func61 ?_
 refine zS ?_
 refine Jb4 (α := Nat × List Tok × Option Addr × Nat) [0, 4, 5] (fun y => [S txt, .slice y.2.2.1 y.2.1.length y.2.2.2, I y.1]) (fun y W => y.1 ≤ txt.length ∧ y.2.1.length ≤ y.1 ∧ (lex txt 0).toks = y.2.1 ++ (lex txt y.1).toks ∧ badI (lex txt 0) = badI (lex txt y.1) ∧ OwnS W 215 4 y.2.2.1 y.2.1.length y.2.2.2 (y.2.1.flatMap tkC) ∧ Kp [] w W ∧ ∀ b, b ∈ Ja1 y.2.2.1 → w.heap.size ≤ b) (fun y => txt.length - y.1) (0, [], none, 0) rfl ⟨Nat.zero_le _, lR, rfl, rfl, Jd6 _ _ _, Kp.refl _ _, by simp [Ja1]⟩ ?_
 rintro ⟨q, l, lad, lcap⟩ e W ⟨hq, hl, htk, hbd, ho, kW, hnew⟩
 dsimp only at hq hl htk hbd ho hnew ⊢
 refine zS ?_
 refine r_if rfl (fun h1 => ?_) (fun h1 => ?_)
 ·obtain ⟨c, hc⟩ : ∃ c, txt[q]? = some c := ⟨_, List.getElem?_eq_getElem oM⟩
  have hgc : txt.getD q 0 = c := by rw [List.getD_eq_getElem?_getD, hc]; rfl
  have blank : Jn2 c = true → ∃ y : Nat × List Tok × Option Addr × Nat, [S txt, .slice lad l.length lcap, I (q + 1 : Nat)] = [S txt, .slice y.2.2.1 y.2.1.length y.2.2.2, I y.1] ∧ (y.1 ≤ txt.length ∧ y.2.1.length ≤ y.1 ∧ (lex txt 0).toks = y.2.1 ++ (lex txt y.1).toks ∧ badI (lex txt 0) = badI (lex txt y.1) ∧ OwnS W 215 4 y.2.2.1 y.2.1.length y.2.2.2 (y.2.1.flatMap tkC) ∧ Kp [] w W ∧ ∀ b, b ∈ Ja1 y.2.2.1 → w.heap.size ≤ b) ∧ txt.length - y.1 < txt.length - q := fun hb =>
   ⟨(q + 1, l, lad, lcap), rfl, ⟨by dsimp only; omega, by dsimp only; omega, by rw [htk, lex_blank hc hb], by rw [hbd, lex_blank hc hb], ho, kW, hnew⟩, by dsimp only; omega⟩
  refine zS ?_
  refine Ja5 _ _ rfl rfl rfl (fun h => ?_) (fun h => ?_)
  ·have g : ((txt.getD q 0).toNat : Int) = 32 := of_decide_eq_true h
   rw [hgc] at g
   refine zS ?_
   exact blank ((Jp4 c).2 oM)
  have g32 : ¬ ((txt.getD q 0).toNat : Int) = 32 := of_decide_eq_false h
  refine zS ?_
  refine Ja5 _ _ rfl rfl rfl (fun h => ?_) (fun h => ?_)
  ·have g : ((txt.getD q 0).toNat : Int) = 9 := of_decide_eq_true h
   rw [hgc] at g
   refine zS ?_
   exact blank ((Jp4 c).2 oM)
  have g9 : ¬ ((txt.getD q 0).toNat : Int) = 9 := of_decide_eq_false h
  refine zS ?_
  refine Ja5 _ _ rfl rfl rfl (fun h => ?_) (fun h => ?_)
  ·have g : ((txt.getD q 0).toNat : Int) = 10 := of_decide_eq_true h
   rw [hgc] at g
   refine zS ?_
   exact blank ((Jp4 c).2 oM)
  have g10 : ¬ ((txt.getD q 0).toNat : Int) = 10 := of_decide_eq_false h
  refine zS ?_
  refine r_if rfl (fun h => ?_) (fun h => ?_)
  ·have g : ((txt.getD q 0).toNat : Int) = 13 := h
   rw [hgc] at g
   refine zS ?_
   exact blank ((Jp4 c).2 oM)
  have g13 : ¬ ((txt.getD q 0).toNat : Int) = 13 := h
  rw [hgc] at g32 g9 g10 g13
  have hnb : Jn2 c = false := by rw [Bool.eq_false_iff]; intro h; have := (Jp4 c).1 h; omega
  have hlx := lex_here hc hnb
  clear blank
  refine zS ?_
  refine Zc (take30_ret hc htl) ?_
  rintro v w1 ⟨rfl, k1⟩
  cases ht : tok1 q (txt.drop q) with
  | none =>
   rw [ht] at hlx
   rw [show takeV none q = .tuple #[.agg ⟨tk0⟩, I q] from rfl]
   refine zS ?_
   refine Za ?_
   intro b6 w2 e6 hu2
   refine Zs (b := b6) (cs := tk0) rfl hu2.blk lR rfl (by simp [Value.oneCell', tk0]) ?_
   intro w3 hu3
   have k13 : Kp [] w1 w3 := (hu2.new oM).since (hu3.kp [b6] (.inl sI)) (by simp; omega)
   have g6 : Blk w3 b6 tk0 215 := hu3.blk
   refine zL g6 ?_
   exact ⟨_, rfl, lad, lcap, by rw [htk, hbd, hlx]; simp only [TS.toks, List.append_nil, badI], by rw [htk, hlx]; simp only [TS.toks, List.append_nil]; exact (ho.kp k1 sI).kp k13 sI, (kW.trans k1).trans k13, hnew⟩
  | some t =>
   rw [ht] at hlx
   dsimp only at hlx
   rw [dropC hc] at ht
   obtain ⟨t1, t2, _, _⟩ := Qd0 ht
   rw [List.length_drop] at t2
   have hne := tkI_ne t
   rw [show takeV (some t) q = .tuple #[.agg ⟨tkC t⟩, I (q + t.text.length : Nat)] from rfl]
   refine zS ?_
   refine Za ?_
   intro b6 w2 e6 hu2
   refine Zs (b := b6) (cs := tkC t) rfl hu2.blk lR rfl (by simp [Value.oneCell', tkC]) ?_
   intro w3 hu3
   have k13 : Kp [] w1 w3 := (hu2.new oM).since (hu3.kp [b6] (.inl sI)) (by simp; omega)
   have g6 : Blk w3 b6 (tkC t) 215 := hu3.blk
   refine zL g6 ?_
   refine r_no rfl (decide_eq_false hne) ?_
   refine zS ?_
   refine Zm (vs := tkC t) rfl g6.cs ?_
   refine Zn (tkC t) rfl rfl rfl kR ?_
   intro bn w4 hbn hu4
   have k4 : Kp [] w3 w4 := hu4.new oM
   have k04 := ((kW.trans k1).trans k13).trans k4
   have y1 := (k1.trans k13).trans k4
   refine Jg7 (k := l.length) (m := 1) (tkC t) rfl rfl (ho.kp y1 sI) (Ja7.blk hu4.blk) rfl rfl rfl dE rfl (tkC_one t) (by simp only [maxLen]; omega) oM rfl rfl ?_
   intro ad5 cap5 w5 ho5 k5 hn5
   have y0 := k04.size
   have y2 := kW.size
   refine zS ?_
   refine ⟨(q + t.text.length, l ++ [t], ad5, cap5), by rw [List.length_append]; rfl, ⟨by dsimp only; omega, by dsimp only; rw [List.length_append, List.length_singleton]; omega, by dsimp only; rw [htk, hlx, List.append_assoc]; rfl, by dsimp only; rw [hbd, hlx]; rfl, ?_, k04.since k5 hnew, fun b hb => ?_⟩, by dsimp only; omega⟩
   ·dsimp only
    rw [List.length_append, List.flatMap_append]
    simpa using ho5
   ·rcases hn5 b hb with h | h
    ·exact hnew b h
    ·omega
 ·obtain rfl : q = txt.length := oM
  rw [lex_end] at htk hbd
  simp only [TS.toks, List.append_nil, badI] at htk hbd
  rw [htk, hbd]
  refine zS ?_
  exact ⟨_, rfl, lad, lcap, rfl, ho, kW, hnew⟩
end
end Go.Vc
