/- Parts of a proof. -/
import Derived.Test.YtkgngbpkiklckaaGreatDoorQClQExact14
set_option maxHeartbeats 12800000
namespace Go.Vc
open Go Go.Proofs
set_option maxRecDepth 20000
section
variable {w : World}
theorem Qe0 {P : Program} {n : Nat} {fn : Func} {R E : Value → World → Prop} {ds : List Deferred} {a : Act} {e : Env} (hf : Fit n ds a e) (h : Goes P fn a.tmps R E ds .returning w) : bodyP P fn R E .ret a w := by
 show Goes P fn a.tmps R E a.defers .returning w
 rw [hf.defers]; exact h
theorem body_pan {P : Program} {fn : Func} {R E : Value → World → Prop} {ds : List Deferred} {a : Act} {v : Value} (hd : a.defers = ds) (h : Goes P fn a.tmps R E ds (.panicking [{ v, recovered := false }]) w) : bodyP P fn R E (.panic [{ v, recovered := false }]) a w := by
 show Goes P fn a.tmps R E a.defers _ w
 rw [hd]; exact h
theorem parseD_ret (q f : Nat) : DRet Tryz.prog 40 [ptr q, ptr f] .returning w (fun u' w' => u' = .returning ∧ w' = w) := by
 refine enterS none Tryz.call40 Tryz.func40 rfl rfl rfl rfl rfl rfl ?_
 refine zS ?_
 refine o_neqNN rfl rfl rfl rfl ?_
 refine zS ?_
 exact rfl
theorem parseD_pan {q f : Nat} {cq cf : List Value} (c i : Int) (hq : Blk w q cq 24) (hlq : cq.length = 1) (hf : Blk w f cf 38) (hlf : cf.length = 2) (hqf : q ≠ f) :
  DRet Tryz.prog 40 [ptr q, ptr f] (.panicking [{ v := refV c i, recovered := false }]) w (fun u' w' => u' = .panicking [{ v := refV c i, recovered := true }] ∧ Blk w' q [.slice none 0 0] 24 ∧ Blk w' f [I c, I i] 38 ∧ Kp [q, f] w w') := by
 have hql := hq.lt
 have hfl := hf.lt
 refine enterS (some (refV c i)) Tryz.call40 Tryz.func40 rfl rfl rfl rfl rfl rfl ?_
 refine zS ?_
 refine Qj4 (v := .agg ⟨[I c, I i]⟩) rfl rfl rfl rfl rfl rfl ?_
 refine zS ?_
 refine Za ?_
 intro b w2 hb hu2
 refine Zs (b := b) (cs := [I c, I i]) rfl hu2.blk lR rfl (by simp [Value.oneCell']) ?_
 intro w3 hu3
 have k3 : Kp [] w w3 := (hu2.new oM).since (hu3.kp [b] (.inl sI)) (by simp; omega)
 have hB3 : Blk w3 b [I c, I i] 97 := hu3.blk
 have hq3 := k3.b0 hq
 have hf3 := k3.b0 hf
 refine zS ?_
 refine Qj6 (fun w' => Blk w' b [I c, I i] 97) 5 Ja0 kR ?_
 have sd := Sm.drew w3
 generalize ({ w3 with drawn := w3.drawn + 1 } : World) = wd at sd ⊢
 have kd : Kp [q, f] w wd := (k3.trans (sd.kp [])).mono sI
 have hBd := sd.blk hB3
 have hqd := sd.blk hq3
 have hfd := sd.blk hf3
 refine Ji9 [0, 1, 2] 2 kR kR kR hBd ?_
 try dsimp only [List.map_cons, List.map_nil]
 refine Zv [.slice none 0 0] rfl ?_
 refine zX ?_
 refine Zz (vs := [I c, I i]) rfl rfl (fun w' h' j v hv => by rw [Nat.zero_add]; exact h'.cell hv) ?_
 refine zX ?_
 have hbq : b ≠ q := oM
 have hbf : b ≠ f := oM
 refine Je4 3 kR rfl ?_
 refine Zs (b := q) (cs := [.slice none 0 0]) rfl hqd (by rw [hlq]; exact lR) rfl (by simp [Value.oneCell']) ?_
 intro w4 hu4
 refine Ja6 ⟨.inr (hu4.kept hbq hBd), ?_⟩
 refine Je4 4 kR rfl ?_
 refine Zs (b := f) (cs := [I c, I i]) rfl (hu4.kept hqf.symm hfd) (by rw [hlf]; exact lR) rfl (by simp [Value.oneCell']) ?_
 intro w5 hu5
 refine Ja6 ⟨.inl kR, Qi6 kR ?_⟩
 have h4 : Blk w4 q [.slice none 0 0] 24 := by
  have := hu4.blk
  obtain ⟨x, rfl⟩ := List.length_eq_one_iff.1 hlq
  exact this
 have h5 : Blk w5 f [I c, I i] 38 := by
  have := hu5.blk
  match cf, hlf, this with
  | [x, y], _, h => exact h
 exact ⟨hu5.kept hqf h4, h5, (kd.trans (hu4.kp _ (.inl sI))).trans (hu5.kp _ (.inl sI))⟩
end
section
variable {w : World}
def Ql2 (r : Except (Int × Int) QT) (w : World) (v : Value) (w' : World) : Prop :=
 match r with
 | .ok t => ∃ ad cap, v = .tuple #[.agg ⟨[.slice ad t.size cap]⟩, .agg ⟨[I 0, I 0]⟩] ∧ OwnS w' 81 4 ad t.size cap (t.rows.flatMap qC) ∧ ∀ b ∈ Ja1 ad, w.heap.size ≤ b
 | .error (c, i) => v = .tuple #[.agg ⟨[.slice none 0 0]⟩, .agg ⟨[I c, I i]⟩]
def endM (t : QT) : TS → Except (Int × Int) QT
 | .tok u _ => .error (301, u.at_)
 | _ => if 64 < t.depth then .error (302, 0) else .ok t
theorem zsh_len (o : Int) : (zsh o).length = 6 := rfl
theorem Jy7 (hA : AscW w) (txt : List UInt8) (hmax : txt.length ≤ 9223372036854775806) : Ret Tryz.prog 14 [S txt] w (fun v w' => Ql2 (Ja4 txt) w v w' ∧ Kp [] w w') := by
 refine RetP.ret (E := fun _ _ => False) ?_ (fun _ _ h => h)
 refine enterD Tryz.call14 Tryz.func14 rfl rfl rfl ?_
 refine t_seq (R := fun _ _ => False) (pan := fun _ _ => False) ?_ (fun _ _ _ _ h => h.elim) (fun _ _ _ _ h => h.elim)
 refine zS ?_
 refine Za ?_
 intro q w1 hq hu1
 refine Za ?_
 intro f w2 hf hu2
 have s1 := hu1.size
 have s1' := hu1.lt
 have s2 := hu2.lt
 have k1 : Kp [] w w1 := hu1.new oM
 have k2 : Kp [] w w2 := k1.trans (hu2.new oM)
 have hqf : q ≠ f := oM
 have hBq : Blk w2 q [.slice none 0 0] 24 := hu2.kept hqf hu1.blk
 have hBf : Blk w2 f [I 0, I 0] 38 := hu2.blk
 clear hu1 hu2
 refine zS ?_
 refine t_seq (R := fun e w' => ∃ us, resC Tryz.prog e w' [.cell 2 24, .cell 3 38] us ∧ Ql2 (Ja4 txt) w (tupV us) w' ∧ Kp [] w w') (pan := fun _ _ => False) ?_ (fun a e w' hfit hR => ?_) (fun _ _ _ _ h => h.elim)
 rotate_left
 ·obtain ⟨us, g1, g2, g3⟩ := hR
  exact Qe0 hfit (Jt3 rfl hfit g1 ⟨g2, g3⟩)
 have resE : ∀ {e : Env} {w' : World} {c i : Int}, e 2 = ptr q → e 3 = ptr f → Blk w' q [.slice none 0 0] 24 → Blk w' f [I c, I i] 38 → resC Tryz.prog e w' [.cell 2 24, .cell 3 38] [.agg ⟨[.slice none 0 0]⟩, .agg ⟨[I c, I i]⟩] := fun h1 h2 h3 h4 =>
  ⟨⟨_, h1, Jb9 h3 rfl rfl rfl rfl⟩, ⟨_, h2, Jb9 h4 rfl rfl rfl rfl⟩, trivial⟩
 refine zS ?_
 refine r_if rfl (fun hc => ?_) (fun hc => ?_)
 ·have hpm : Ja4 txt = .error (3, 4096) := by unfold Ja4; rw [if_pos oM]
  rw [hpm]
  refine zS ?_
  refine Zb [.slice none 0 0] ?_
  refine Zb [I 3, I 4096] ?_
  refine Zs (b := q) (cs := [.slice none 0 0]) rfl hBq lR rfl (by simp [Value.oneCell']) ?_
  intro w3 hu3
  refine Zs (b := f) (cs := [I 3, I 4096]) rfl (hu3.kept hqf.symm hBf) lR rfl (by simp [Value.oneCell']) ?_
  intro w4 hu4
  refine zS ?_
  exact ⟨_, resE rfl rfl (hu4.kept hqf hu3.blk) hu4.blk, rfl, (k2.since (hu3.kp [q] (.inl sI)) (by simp; omega)).since (hu4.kp [f] (.inl sI)) (by simp; omega)⟩
 ·have htl : txt.length ≤ 4096 := oM
  have hpm : Ja4 txt = (match lex txt 0 with
   | .bad i => .error (300, i)
   | s => rd (20 * txt.length + 20) 0 s >>= fun x => endM x.1 x.2) := by
   unfold Ja4; rw [if_neg oM]
   cases lex txt 0 <;> rfl
  refine zS ?_
  refine t_seqD ?_
  refine Ju5 rfl rfl ?_
  refine oq_defer rfl rfl ?_
  refine oq_nil ?_
  have dies : ∀ {a : Act} {e : Env} {v : Value} {w' : World}, Fit Tryz.f14.ntmps [⟨.fn (.func 40) #[ptr q, ptr f], #[]⟩] a e → e 2 = ptr q → e 3 = ptr f → (∃ c i : Int, Ja4 txt = .error (c, i) ∧ v = refV c i ∧ Kp [] w2 w') →
    bodyP Tryz.prog Tryz.f14 (fun v w' => Ql2 (Ja4 txt) w v w' ∧ Kp [] w w') (fun _ _ => False) (.panic [{ v, recovered := false }]) a w' := by
   rintro a e v w' hfit h2 h3 ⟨c, i, g1, rfl, g3⟩
   refine body_pan hfit.defers (Jt2 (cap := [ptr q, ptr f]) (by intro h; cases h) ((parseD_pan c i (g3.b0 hBq) rfl (g3.b0 hBf) rfl hqf).mono ?_))
   rintro u' w'' ⟨rfl, b1, b2, b3⟩
   exact Jt3 rfl hfit (resE h2 h3 b1 b2) ⟨by rw [g1]; rfl, (k2.trans g3).since b3 (by simp; omega)⟩
  refine t_seq (R := fun _ _ => False) (pan := fun _ _ => False) ?_ (fun _ _ _ _ h => h.elim) (fun _ _ _ _ h => h.elim)
  refine zS ?_
  refine o_build (pC txt 0 ⟨[], 0, 0⟩) rfl rfl rfl rfl rfl kR rfl ?_
  refine Zx ?_
  intro p w3 hp hu3
  have k3 : Kp [] w2 w3 := hu3.new oM
  have hB3 : PB w3 p txt 0 ⟨[], 0, 0⟩ := hu3.blk
  clear hu3
  have y2 := k2.size
  have hA3 := hA.kp (k2.trans k3) sI
  have hpg : p ≠ 0 := by have := hA.lt; omega
  refine zS ?_
  refine t_then (Jx6 ?_)
  refine Ju5 rfl rfl ?_
  refine Jy8 (step_ret hB3 htl (Nat.zero_le _)) rfl rfl (fun a v w' hfit hE => ?_) ?_
  ·obtain ⟨j, g1, g2, g3⟩ := hE
   exact dies hfit rfl rfl ⟨300, j, by rw [hpm, g1], g2, k3.since g3 (by simp; omega)⟩
  rintro v w4 ⟨rfl, hP4, k4⟩
  have k24 : Kp [] w2 w4 := k3.since k4 (by simp; omega)
  refine oq_then ?_
  have hpm : Ja4 txt = (rd (20 * txt.length + 20) 0 (lex txt 0) >>= fun x => endM x.1 x.2) := by
   rw [hpm]
   cases hx : lex txt 0 with
   | bad i => rw [hx] at hP4; exact hP4.elim
   | stop i => rfl
   | tok t r => rfl
  have hll := Qg3 (txt := txt) txt.length 0 oM oM
  refine t_then (Jx6 ?_)
  refine Ju5 rfl rfl ?_
  refine Jy8 ((all_ok (20 * txt.length + 20)).1 (hA3.kp k4 (by simpa using Ne.symm hpg)) hpg hP4 htl oM oM) rfl rfl (fun a v w' hfit hE => ?_) ?_
  ·obtain ⟨c1, i1, g1, g2, g3⟩ := hE
   exact dies hfit rfl rfl ⟨c1, i1, by rw [hpm, g1]; rfl, g2, k24.since g3 (by simp; omega)⟩
  rintro v w5 ⟨t, s5, g5, ⟨tq, rfl, hT5⟩, hP5, k5⟩
  have k25 : Kp [] w2 w5 := k24.since k5 (by simp; omega)
  rw [g5] at hpm
  have hpm : Ja4 txt = endM t s5 := hpm
  have hz := (Ji1 _).1 _ _ _ _ g5
  refine Ju5 rfl rfl ?_
  refine oq_then ?_
  refine t_then ?_
  refine t_seq (R := fun _ _ => False) (pan := fun _ _ => False) ?_ (fun _ _ _ _ h => h.elim) (fun _ _ _ _ h => h.elim)
  have hB5 := hP5.pb
  refine zL hB5 ?_
  refine t_cond rfl (fun hc => ?_) (fun hc => ?_)
  ·have hne : ¬ s5.hd.text = [] := by simpa using hc
   refine Jx6 ?_
   refine Ju5 rfl rfl ?_
   refine Jy8 (Jz5 hB5 (fun _ _ => False)) rfl rfl (fun a v w' hfit hE => ?_) (fun v w' h => h.elim)
   cases s5 with
   | tok u r => exact dies hfit rfl rfl ⟨301, u.at_, hpm, hE.1, hE.2 ▸ k25⟩
   | stop j => exact absurd rfl hne
   | bad j => exact absurd rfl hne
  ·have he : s5.hd.text = [] := by simpa using hc
   have hpm : Ja4 txt = (if 64 < t.depth then .error (302, 0) else .ok t) := by
    cases s5 with
    | tok u r =>
     obtain ⟨_, _, _, h4⟩ := hP5
     have he : u.text = [] := he
     rw [he] at h4; simp at h4
    | stop j => exact hpm
    | bad j => exact hpm
   refine t_skip ?_
   refine t_then (Jx6 ?_)
   refine Ju5 rfl rfl ?_
   refine Jy8 (lay_ok t (w0 := w5) (n := 0) (cap := 0) (ad := none) (xs := []) 0 zsh_len hT5 (Kp.refl _ _) (Jd6 _ _ _) (by simp [Ja1]) oM oM) rfl rfl (fun a v w' hfit hE => ?_) ?_
   ·obtain ⟨g1, g2, g3⟩ := hE
    exact dies hfit rfl rfl ⟨302, 0, by rw [hpm, if_pos oM], g2, k25.trans g3⟩
   rintro v w6 ⟨g1, ad, cap, hv, hO6, k6, hf6⟩
   rw [Nat.zero_add] at hv
   subst hv
   rw [if_neg oM] at hpm
   rw [Nat.zero_add, List.nil_append] at hO6
   have k26 := k25.trans k6
   have y5 := k25.size
   refine oq_ops (K := fun e w' => e 2 = ptr q ∧ e 3 = ptr f ∧ Blk w' q [.slice ad t.size cap] 24 ∧ Blk w' f [I 0, I 0] 38 ∧ Kp [q, f] w6 w') ?_ ?_
   ·refine Zb [.slice ad t.size cap] ?_
    refine Zb [I 0, I 0] ?_
    refine Zs (b := q) (cs := [.slice ad t.size cap]) rfl (k26.b0 hBq) lR rfl (by simp [Value.oneCell']) ?_
    intro w7 hu7
    refine Zs (b := f) (cs := [I 0, I 0]) rfl (hu7.kept hqf.symm (k26.b0 hBf)) lR rfl (by simp [Value.oneCell']) ?_
    intro w8 hu8
    refine Ja6 ?_
    exact ⟨rfl, rfl, hu8.kept hqf hu7.blk, hu8.blk, (hu7.kp _ (.inl sI)).trans (hu8.kp _ (.inl sI))⟩
   ·rintro a e w7 hfit ⟨h2, h3, hBq7, hBf7, k7⟩
    refine wpIn_ret ?_
    refine Qe0 hfit (Jt2 (cap := [ptr q, ptr f]) (by intro h; cases h) ((parseD_ret q f).mono ?_))
    rintro u' w8 ⟨rfl, rfl⟩
    refine Jt3 rfl hfit (us := [.agg ⟨[.slice ad t.size cap]⟩, .agg ⟨[I 0, I 0]⟩]) ⟨⟨_, h2, Jb9 hBq7 rfl rfl rfl rfl⟩, ⟨_, h3, Jb9 hBf7 rfl rfl rfl rfl⟩, trivial⟩ ⟨?_, (k2.trans k26).since k7 (by simp; omega)⟩
    rw [hpm]
    exact ⟨ad, cap, rfl, hO6.kp k7 (fun b hb => by have := hf6 b hb; simp; omega), fun b hb => by have := hf6 b hb; omega⟩
end
end Go.Vc
namespace Go.Vc
def Ji8 (f above : Nat) : Nat → List QN → Option (List QT × List QN)
 | 0, r => some ([], r)
 | k + 1, r => match Jg5 f above r with
  | none => none
  | some (a, r1) => match Ji8 f above k r1 with
   | none => none
   | some (l, r2) => some (a :: l, r2)
def mkT (op num : Int) (name : List UInt8) : List QT → QT
 | [] => .n0 op num name
 | [a] => .n1 op num name a
 | a :: b :: _ => .n2 op num name a b
def sumQ (l : List QT) : Nat := (l.map QT.size).sum
theorem Jk7 (k : Nat) : Jc7 k ≤ 2 := by
 unfold Jc7; split <;> (try omega); split <;> (try omega); split <;> omega
theorem Jt7 (f above : Nat) (x : QN) (r : List QN) : Jg5 (f + 1) above (x :: r) = if 64 < above then none else if ownQ x.op x.num x.name = false then none else match Ji8 f (above + 1) (Jc7 x.op.toNat) r with
  | none => none
  | some (l, r') => if x.size = 1 + sumQ l then some (mkT x.op x.num x.name l, r') else none := by
 rw [Jg5]
 split
 ·rfl
 ·split
  ·rfl
  ·have h3 : Jc7 x.op.toNat = 0 ∨ Jc7 x.op.toNat = 1 ∨ Jc7 x.op.toNat = 2 := by have := Jk7 x.op.toNat; omega
   rcases h3 with h | h | h
   ·rw [h, if_pos rfl]
    simp [Ji8, sumQ, mkT]
   ·rw [h, if_neg oM]
    simp only [Ji8]
    cases Jg5 f (above + 1) r with
    | none => rfl
    | some y => simp [sumQ, mkT]
   ·rw [h, if_neg oM]
    simp only [Ji8]
    cases Jg5 f (above + 1) r with
    | none => rfl
    | some y =>
     obtain ⟨a, r1⟩ := y
     dsimp only
     rw [if_neg oM]
     cases Jg5 f (above + 1) r1 with
     | none => rfl
     | some z =>
      have e : ∀ m : Nat, (1 + (a.size : Int) + m) = 1 + ((a.size + m : Nat) : Int) := by intro m; omega
      simp [sumQ, mkT]
      have : (1 + (a.size : Int) + z.1.size) = 1 + (a.size + z.1.size) := oM
      rw [this]
theorem Jz3 {f above : Nat} : ∀ (k : Nat) (r r1 r2 : List QN) (l : List QT) (a : QT), Ji8 f above k r = some (l, r1) → Jg5 f above r1 = some (a, r2) → Ji8 f above (k + 1) r = some (l ++ [a], r2)
 | 0, r, r1, r2, l, a, h, h2 => by
  simp [Ji8] at h
  obtain ⟨rfl, rfl⟩ := h
  simp [Ji8, h2]
 | k + 1, r, r1, r2, l, a, h, h2 => by
  rw [Ji8] at h
  rw [Ji8]
  cases hg : Jg5 f above r with
  | none => rw [hg] at h; cases h
  | some y =>
   obtain ⟨b, r'⟩ := y
   rw [hg] at h
   dsimp only at h ⊢
   cases hk : Ji8 f above k r' with
   | none => rw [hk] at h; cases h
   | some z =>
    obtain ⟨l', r''⟩ := z
    rw [hk] at h
    cases h
    rw [Jz3 k r' r1 r2 l' a hk h2]
    rfl
theorem Jz8 {f above : Nat} : ∀ (k j : Nat) (r r1 : List QN) (l : List QT), Ji8 f above k r = some (l, r1) → Jg5 f above r1 = none → Ji8 f above (k + 1 + j) r = none
 | 0, j, r, r1, l, h, h2 => by
  simp [Ji8] at h
  obtain ⟨rfl, rfl⟩ := h
  rw [show 0 + 1 + j = j + 1 by omega]
  simp [Ji8, h2]
 | k + 1, j, r, r1, l, h, h2 => by
  rw [Ji8] at h
  rw [show k + 1 + 1 + j = (k + 1 + j) + 1 by omega, Ji8]
  cases hg : Jg5 f above r with
  | none => rfl
  | some y =>
   obtain ⟨b, r'⟩ := y
   rw [hg] at h
   dsimp only at h ⊢
   cases hk : Ji8 f above k r' with
   | none => rw [hk] at h; cases h
   | some z =>
    obtain ⟨l', r''⟩ := z
    rw [hk] at h
    cases h
    rw [Jz8 k j r' r1 l' hk h2]
theorem Qh1 {f above : Nat} (hF : ∀ l t r, Jg5 f above l = some (t, r) → r.length + t.size = l.length) : ∀ (k : Nat) (r r1 : List QN) (l : List QT), Ji8 f above k r = some (l, r1) → r1.length + sumQ l = r.length ∧ l.length = k
 | 0, r, r1, l, h => by simp [Ji8] at h; obtain ⟨rfl, rfl⟩ := h; simp [sumQ]
 | k + 1, r, r1, l, h => by
  rw [Ji8] at h
  cases hg : Jg5 f above r with
  | none => rw [hg] at h; cases h
  | some y =>
   obtain ⟨b, r'⟩ := y
   rw [hg] at h
   dsimp only at h
   cases hk : Ji8 f above k r' with
   | none => rw [hk] at h; cases h
   | some z =>
    obtain ⟨l', r''⟩ := z
    rw [hk] at h
    cases h
    have := hF _ _ _ hg
    obtain ⟨h1, h2⟩ := Qh1 hF k r' r1 l' hk
    refine ⟨?_, by simp [h2]⟩
    simp only [sumQ, List.map_cons, List.sum_cons] at h1 ⊢
    omega
theorem mkT_size {op num : Int} {name : List UInt8} {l : List QT} (h : l.length ≤ 2) : (mkT op num name l).size = 1 + sumQ l := by
 match l, h with
 | [], _ => rfl
 | [a], _ => simp [mkT, QT.size, sumQ]
 | [a, b], _ => simp [mkT, QT.size, sumQ]; omega
theorem Qi9 : ∀ (f above : Nat) (l : List QN) (t : QT) (r : List QN), Jg5 f above l = some (t, r) → r.length + t.size = l.length
 | 0, _, _, _, _, h => by simp [Jg5] at h
 | f + 1, _, [], _, _, h => by simp [Jg5] at h
 | f + 1, above, x :: r, t, r', h => by
  rw [Jt7] at h
  split at h
  ·cases h
  ·split at h
   ·cases h
   ·split at h
    ·cases h
    ·rename_i l r2 hk
     obtain ⟨h1, h2⟩ := Qh1 (Qi9 f (above + 1)) _ _ _ _ hk
     split at h
     ·cases h
      rw [mkT_size (by rw [h2]; exact Jk7 _)]
      simp; omega
     ·cases h
theorem growK_suf {f above : Nat} (hF : ∀ l t r, Jg5 f above l = some (t, r) → r <:+ l) : ∀ (k : Nat) (r r1 : List QN) (l : List QT), Ji8 f above k r = some (l, r1) → r1 <:+ r
 | 0, r, r1, l, h => by simp [Ji8] at h; obtain ⟨rfl, rfl⟩ := h; exact List.suffix_refl _
 | k + 1, r, r1, l, h => by
  rw [Ji8] at h
  cases hg : Jg5 f above r with
  | none => rw [hg] at h; cases h
  | some y =>
   obtain ⟨b, r'⟩ := y
   rw [hg] at h
   dsimp only at h
   cases hk : Ji8 f above k r' with
   | none => rw [hk] at h; cases h
   | some z =>
    obtain ⟨l', r''⟩ := z
    rw [hk] at h
    cases h
    exact (growK_suf hF k r' r1 l' hk).trans (hF _ _ _ hg)
theorem Qh7 : ∀ (f above : Nat) (l : List QN) (t : QT) (r : List QN), Jg5 f above l = some (t, r) → r <:+ l
 | 0, _, _, _, _, h => by simp [Jg5] at h
 | f + 1, _, [], _, _, h => by simp [Jg5] at h
 | f + 1, above, x :: r, t, r', h => by
  rw [Jt7] at h
  split at h
  ·cases h
  ·split at h
   ·cases h
   ·split at h
    ·cases h
    ·rename_i l r2 hk
     have h1 := growK_suf (Qh7 f (above + 1)) _ _ _ _ hk
     split at h
     ·cases h
      exact h1.trans (List.suffix_cons _ _)
     ·cases h
end Go.Vc

namespace Go.Vc
open Go Go.Proofs
set_option maxRecDepth 20000
section
variable {w : World}
def shQ (o : Int) : List Value := shO o.toNat
abbrev GV (r : Option (QT × List QN)) (lo : Nat) (cap : Nat) (bl : List Nat) (v : Value) (w' : World) : Prop :=
 match r with
 | none => v = .tuple #[.pointer none, .slice none 0 0]
 | some (t, r) => ∃ p ad' cap', v = .tuple #[ptr p, .slice ad' r.length cap'] ∧ Jc3 shQ lo w' t p ∧ Ja7 w' ad' (r.flatMap qC) ∧ r.length ≤ cap' ∧ cap' ≤ cap ∧ ∀ b ∈ Ja1 ad', b ∈ bl
theorem tree_mk {sh : Int → List Value} {lo p cap : Nat} {ad : Option Addr} {op num : Int} {name : List UInt8} {ks : List (Nat × QT)} (hk : ks.length ≤ 2) (hlo : lo ≤ p) (hB : TBlk sh w p op (1 + sumQ (ks.map (·.2)) : Nat) num name (.slice ad ks.length cap)) (hR : Ja7 w ad (ks.map fun y => ptr y.1)) (hb : ∀ b ∈ Ja1 ad, lo ≤ b) (hT : ∀ y ∈ ks, Jc3 sh lo w y.2 y.1) : Jc3 sh lo w (mkT op num name (ks.map (·.2))) p := by
 match ks, hk with
 | [], _ => exact ⟨hlo, ad, cap, hB⟩
 | [a], _ =>
  have e : 1 + sumQ ([a].map (·.2)) = 1 + a.2.size := by simp [sumQ]
  rw [e] at hB
  exact ⟨hlo, ad, cap, a.1, hB, hR, hb, hT a sI⟩
 | [a, b], _ =>
  have e : 1 + sumQ ([a, b].map (·.2)) = 1 + a.2.size + b.2.size := by simp [sumQ]; omega
  rw [e] at hB
  exact ⟨hlo, ad, cap, a.1, b.1, hB, hR, hb, hT a sI, hT b sI⟩
theorem grow_ret : ∀ (f above : Nat) {w : World} {l : List QN} {ad : Option Addr} {cap : Nat}, f + above = 66 → AscW w → Ja7 w ad (l.flatMap qC) → l.length ≤ cap → cap ≤ 9223372036854775807 → (∀ x ∈ l, x.name.length ≤ 9223372036854775806) →
  Ret Tryz.prog 72 [.slice ad l.length cap, I above] w (fun v w' => GV (Jg5 f above l) w.heap.size cap (Ja1 ad) v w' ∧ Kp [] w w')
 | 0, above, w, l, ad, cap, hf, hA, hR, hc, hm, hnm => by
  have hg : Jg5 0 above l = none := rfl
  rw [hg]
  refine Ze Tryz.call72 Tryz.func72 ?_
  refine zS ?_
  refine Ja5 _ _ rfl rfl rfl (fun h => ?_) (fun h => ?_)
  ·refine zS ?_
   exact ⟨_, rfl, rfl, Kp.refl _ _⟩
  ·refine zS ?_
   refine Jf7 rfl (decide_eq_true oM) ?_
   refine zS ?_
   exact ⟨_, rfl, rfl, Kp.refl _ _⟩
 | f + 1, above, w, [], ad, cap, hf, hA, hR, hc, hm, hnm => by
  have hg : Jg5 (f + 1) above [] = none := rfl
  rw [hg]
  refine Ze Tryz.call72 Tryz.func72 ?_
  refine zS ?_
  exact ⟨_, rfl, rfl, Kp.refl _ _⟩
 | f + 1, above, w, x :: r, ad, cap, hf, hA, hR, hc, hm, hnm => by
  obtain ⟨b, off, rfl, hbl, hcell⟩ := hR.at_ (by simp [qC])
  have hx : ∀ j v, (qC x)[j]? = some v → w.cell? ⟨b, off + j, none⟩ = some v := fun j v hv => hcell j v (by
   rw [List.flatMap_cons, List.getElem?_append_left (List.getElem?_eq_some_iff.1 hv).1]; exact hv)
  have hlen : (x :: r).length = r.length + 1 := rfl
  have hg := Jt7 f above x r
  refine Ze Tryz.call72 Tryz.func72 ?_
  refine zS ?_
  refine r_if rfl (fun hab => ?_) (fun hab => ?_)
  ·rw [hg, if_pos oM]
   refine zS ?_
   exact ⟨_, rfl, rfl, Kp.refl _ _⟩
  rw [if_neg oM] at hg
  refine zk ?_
  refine Ja9 ?_
  refine Jd8 (α := Nat) [0, 1, 6, 7] (fun p => [.slice (some ⟨b, off, none⟩) (r.length + 1) cap, I above, ptr p, .slice (some ⟨b, offS off 1 cap 4, none⟩) r.length (cap - 1)]) (fun p W => Blk W p (qC x) 81 ∧ Kp [] w W ∧ w.heap.size ≤ p) ?_ ?_
  ·refine Jo6 (fun w' => Kp [] w w') [(0, false), (1, false), (2, false), (3, false), (4, false), (5, true), (6, true), (7, false)] Ja0 kR kR kR ((Sm.drew w).kp []) ?_
   have sd := (Sm.drew w).kp []
   generalize ({ w with drawn := w.drawn + 1 } : World) = wd at sd ⊢
   refine zX ?_
   refine x_loadA (vs := qC x) rfl rfl (fun w' h' j v hv => by
    rw [show (off + Int.toNat 0 * 4 + j) = off + j by simp, ← hx j v hv]
    exact World.cell?_of_block (h'.at_ b hbl sI)) rfl rfl rfl rfl rfl rfl ?_
   refine zX ?_
   refine Jh2 rfl ?_
   refine Za ?_
   intro p w2 hp hu2
   have k2 : Kp [] w w2 := sd.trans (hu2.new oM)
   refine Ja6 ⟨.inr k2, ?_⟩
   refine zX ?_
   refine Jh2 rfl ?_
   refine Zs (b := p) (cs := qC x) rfl hu2.blk lR rfl (by simp [Value.oneCell', qC]) ?_
   intro w3 hu3
   have y2 := sd.size
   have k3 : Kp [] w w3 := k2.since (hu3.kp [p] (.inl sI)) (by simp; omega)
   refine Ja6 ⟨.inr k3, ?_⟩
   refine zX ?_
   exact ⟨p, rfl, hu3.blk, k3, oM⟩
  rintro p e1 w1 ⟨hB, k1, hp⟩
  have hRt : Ja7 w (some ⟨b, offS off 1 cap 4, none⟩) (r.flatMap qC) := by
   refine Ja7.mk (fun i v hv => ?_)
   have hi := (List.getElem?_eq_some_iff.1 hv).1
   have hrl : 0 < r.length := by rw [Jf5] at hi; omega
   have e : offS off 1 cap 4 = off + 4 := by unfold offS; rw [if_neg oM]
   rw [e, Nat.add_assoc]
   exact hcell (4 + i) v (by rw [List.flatMap_cons, List.getElem?_append_right (by simp [qC])]; simpa [qC] using hv)
  generalize offS off 1 cap 4 = off1 at hRt ⊢
  clear hx hcell hR
  have hpl := hB.lt
  have y1 := k1.size
  refine zS ?_
  refine Zc Jt6 ?_
  rintro v w2 ⟨rfl, hrS, k2⟩
  have k02 := k1.trans k2
  have hB2 := k2.b0 hB
  refine zL hB2 ?_
  refine Jn9 [0, 1, 6, 7, 8] [.slice (some ⟨b, off, none⟩) (r.length + 1) cap, I above, ptr p, .slice (some ⟨b, off1, none⟩) r.length (cap - 1), .slice (some ⟨w1.heap.size, 0, none⟩) 27 27] 34 (!decide (1 ≤ x.op ∧ x.op ≤ 26)) (fun W => W = w2) ?_ ?_
  ·refine Ja5 _ _ rfl rfl rfl (fun h1 => ?_) (fun h1 => ?_)
   ·have h1 : x.op < 1 := of_decide_eq_true h1
    refine zL hB2 ?_
    exact ⟨rfl, ⟨_, rfl, by simp; omega⟩, rfl⟩
   ·have h1 : ¬ x.op < 1 := of_decide_eq_false h1
    refine zL hB2 ?_
    refine ⟨rfl, ⟨_, rfl, ?_⟩, rfl⟩
    rw [← decide_not, decide_eq_decide]; omega
  rintro e2 w2 rfl
  refine zS ?_
  refine Jn8 rfl (fun hop => ?_) (fun hop => ?_)
  ·have ho : ownQ x.op x.num x.name = false := by
    unfold ownQ
    by_cases h : 1 ≤ x.op
    ·rw [decide_eq_false (show ¬ x.op ≤ 26 by omega)]; simp
    ·rw [decide_eq_false h]; simp
   rw [hg, if_pos ho]
   refine zS ?_
   exact ⟨_, rfl, rfl, k02⟩
  obtain ⟨k, hk, hk1, hk2⟩ : ∃ k : Nat, x.op = k ∧ 1 ≤ k ∧ k ≤ 26 := ⟨x.op.toNat, oM, oM, oM⟩
  have hqC : qC x = [I k, I x.size, I x.num, S x.name] := by unfold qC; rw [hk]
  rw [hqC] at hB2
  refine zk ?_
  refine Ja9 ?_
  refine Jd8 (α := Nat) [0, 1, 6, 7, 9] (fun q => [.slice (some ⟨b, off, none⟩) (r.length + 1) cap, I above, ptr p, .slice (some ⟨b, off1, none⟩) r.length (cap - 1), ptr q]) (fun q W => TBlk shQ W q k x.size x.num x.name (.slice none 0 0) ∧ Kp [] w2 W ∧ w2.heap.size ≤ q) ?_ ?_
  ·refine Jo6 (fun w' => Kp [] w2 w') [(0, false), (1, false), (2, false), (3, false), (4, false), (5, false), (6, false), (7, true), (8, false)] Ja0 kR kR kR ((Sm.drew w2).kp []) ?_
   have sd := (Sm.drew w2).kp []
   generalize ({ w2 with drawn := w2.drawn + 1 } : World) = wd at sd ⊢
   refine zX ?_
   refine Zz (vs := [I k, I x.size, I x.num, S x.name]) rfl rfl (fun w' h' j v hv => by rw [Nat.zero_add]; exact (h'.b0 hB2).cell hv) ?_
   refine zX ?_
   refine Zy (v := I k) rfl rfl (fun w' h' => (h'.b0 hB2).cell rfl) ?_
   refine zX ?_
   refine x_loadA (vs := shO k) rfl rfl (fun w' h' j v hv => by
    have h := (hrS.kp h' sI) (k * 6 + j) v (Jm9 (f := shO) (m := 6) shO_len (List.getElem?_range (show k < 27 by omega)) hv)
    rw [← h, Jc1, Ja2, Nat.add_assoc]) rfl rfl rfl rfl rfl rfl ?_
   refine zX ?_
   refine x_build ([I k, I x.size, I x.num, S x.name] ++ shQ k ++ [.slice none 0 0]) rfl rfl rfl rfl rfl kR rfl rfl ?_
   refine zX ?_
   refine Jh2 rfl ?_
   refine Zx ?_
   intro q w3 hq hu3
   have k3 : Kp [] w2 w3 := sd.trans (hu3.new oM)
   have y3 := sd.size
   refine Ja6 ⟨.inr k3, ?_⟩
   refine zX ?_
   exact ⟨q, rfl, hu3.blk, k3, oM⟩
  rintro q e3 w3 ⟨hT, k3, hq⟩
  have k03 := k02.trans k3
  have hB3 := k3.b0 hB2
  have y2 := k02.size
  have hTo : TBlk shQ w3 q k x.size x.num x.name (.slice none 0 0) := hT
  have how : ownQ x.op x.num x.name = (decide (0 ≤ x.num) && (decide (x.num = 0) || decide ((k : Int) = 1)) && (if Jb6 k || decide (k = 2) then Jc5 x.name else decide (x.name = []))) := by
   unfold ownQ
   rw [hk, decide_eq_true (show (1 : Int) ≤ k by omega), decide_eq_true (show (k : Int) ≤ 26 by omega), Int.toNat_natCast, show decide ((k : Int) = 2) = decide (k = 2) from decide_eq_decide.2 oM]
   rfl
  refine zS ?_
  refine Zl (v := .bool (Jb6 k)) rfl hTo ?_
  refine zS ?_
  refine Jn9 [0, 1, 6, 7, 9] [.slice (some ⟨b, off, none⟩) (r.length + 1) cap, I above, ptr p, .slice (some ⟨b, off1, none⟩) r.length (cap - 1), ptr q] 10 (Jb6 k || decide (k = 2)) (fun W => W = w3) ?_ ?_
  ·refine Ja5 _ _ rfl rfl rfl (fun h1 => ?_) (fun h1 => ?_)
   ·refine zL hB3 ?_
    exact ⟨rfl, ⟨_, rfl, by rw [h1]; rfl⟩, rfl⟩
   ·refine zL hB3 ?_
    exact ⟨rfl, ⟨_, rfl, by rw [h1, Bool.false_or, decide_eq_decide]; omega⟩, rfl⟩
  rintro e4 w4 rfl
  generalize (Jb6 k || decide (k = 2)) = nb at how ⊢
  have hA4 := hA.kp k03 sI
  have hnl := hnm x sI
  refine zL hB3 ?_
  refine Jn9 [0, 1, 6, 7, 9] [.slice (some ⟨b, off, none⟩) (r.length + 1) cap, I above, ptr p, .slice (some ⟨b, off1, none⟩) r.length (cap - 1), ptr q] 81 (!ownQ x.op x.num x.name) (fun W => Kp [] w4 W) ?_ ?_
  ·rw [how]
   refine Ja5 _ _ rfl rfl rfl (fun h1 => ?_) (fun h1 => ?_)
   ·have h1 : x.num < 0 := of_decide_eq_true h1
    refine zL hB3 ?_
    refine ⟨rfl, ⟨_, rfl, by rw [decide_eq_false (show ¬ 0 ≤ x.num by omega)]; rfl⟩, Kp.refl _ _⟩
   have h1 : ¬ x.num < 0 := of_decide_eq_false h1
   refine zL hB3 ?_
   refine Ja5 _ _ rfl rfl rfl (fun h2 => ?_) (fun h2 => ?_)
   ·have h2 : 0 < x.num := of_decide_eq_true h2
    refine zL hB3 ?_
    refine Ja5 _ _ rfl rfl rfl (fun h3 => ?_) (fun h3 => ?_)
    ·have h3 : ¬ (k : Int) = 1 := by simpa using h3
     refine zL hB3 ?_
     refine ⟨rfl, ⟨_, rfl, ?_⟩, Kp.refl _ _⟩
     rw [decide_eq_false h3, decide_eq_false (show ¬ x.num = 0 by omega)]; simp
    ·have h3 : (k : Int) = 1 := by simpa using h3
     have hnum : (decide (0 ≤ x.num) && (decide (x.num = 0) || decide ((k : Int) = 1)) && (if nb then Jc5 x.name else decide (x.name = []))) = (if nb then Jc5 x.name else decide (x.name = [])) := by
      rw [decide_eq_true h3, decide_eq_true (show 0 ≤ x.num by omega)]; simp
     refine zL hB3 ?_
     refine Ja5 _ _ rfl rfl rfl (fun h4 => ?_) (fun h4 => ?_)
     ·refine zL hB3 ?_
      refine ⟨rfl, ⟨_, rfl, ?_⟩, Kp.refl _ _⟩
      rw [hnum]
      cases nb with
      | true =>
       have : x.name = [] := by simpa using h4
       rw [this]; rfl
      | false =>
       have : x.name ≠ [] := by simpa using h4
       simp [this]
     ·have hnb : nb = !decide (x.name = []) := by simpa using h4
      refine zL hB3 ?_
      refine Ja5 _ _ rfl rfl rfl (fun h5 => ?_) (fun h5 => ?_)
      ·subst h5
       refine zL hB3 ?_
       refine Zc (Jm6 hA4 x.name hnl) ?_
       rintro v w5 ⟨rfl, k5⟩
       refine zS ?_
       refine ⟨rfl, ⟨_, rfl, ?_⟩, k5⟩
       rw [hnum]; simp
      ·subst h5
       refine zL hB3 ?_
       refine ⟨rfl, ⟨_, rfl, ?_⟩, Kp.refl _ _⟩
       have : x.name = [] := by simpa using hnb
       rw [hnum, this]; rfl
   ·have h2 : ¬ 0 < x.num := of_decide_eq_false h2
    have hnum : (decide (0 ≤ x.num) && (decide (x.num = 0) || decide ((k : Int) = 1)) && (if nb then Jc5 x.name else decide (x.name = []))) = (if nb then Jc5 x.name else decide (x.name = [])) := by
     rw [decide_eq_true (show x.num = 0 by omega), decide_eq_true (show 0 ≤ x.num by omega)]; simp
    refine zL hB3 ?_
    refine Ja5 _ _ rfl rfl rfl (fun h4 => ?_) (fun h4 => ?_)
    ·refine zL hB3 ?_
     refine ⟨rfl, ⟨_, rfl, ?_⟩, Kp.refl _ _⟩
     rw [hnum]
     cases nb with
     | true =>
      have : x.name = [] := by simpa using h4
      rw [this]; rfl
     | false =>
      have : x.name ≠ [] := by simpa using h4
      simp [this]
    ·have hnb : nb = !decide (x.name = []) := by simpa using h4
     refine zL hB3 ?_
     refine Ja5 _ _ rfl rfl rfl (fun h5 => ?_) (fun h5 => ?_)
     ·subst h5
      refine zL hB3 ?_
      refine Zc (Jm6 hA4 x.name hnl) ?_
      rintro v w5 ⟨rfl, k5⟩
      refine zS ?_
      refine ⟨rfl, ⟨_, rfl, ?_⟩, k5⟩
      rw [hnum]; simp
     ·subst h5
      refine zL hB3 ?_
      refine ⟨rfl, ⟨_, rfl, ?_⟩, Kp.refl _ _⟩
      have : x.name = [] := by simpa using hnb
      rw [hnum, this]; rfl
  rintro e5 w5 k5
  have k05 := k03.trans k5
  have hT5 := k5.b0 hTo
  have hB5 := k5.b0 hB3
  cases ho : ownQ x.op x.num x.name with
  | false =>
   rw [hg, if_pos ho]
   refine zS ?_
   exact ⟨_, rfl, rfl, k05⟩
  | true =>
  rw [if_neg (by rw [ho]; simp)] at hg
  have hkn : x.op.toNat = k := by rw [hk]; rfl
  rw [hkn] at hg
  have hkd := Jk7 k
  have hql := hT5.lt
  have hrt : r.length ≤ cap - 1 := oM
  refine zS ?_
  refine Zl (v := I (Jc7 k)) rfl hT5 ?_
  refine zS ?_
  refine Jb4 (α := List (Nat × QT) × Option Addr × Nat × List QN × Option Addr × Nat) [0, 1, 6, 7, 9, 86, 87] (fun s => [.slice (some ⟨b, off, none⟩) (r.length + 1) cap, I above, ptr p, .slice s.2.2.2.2.1 s.2.2.2.1.length s.2.2.2.2.2, ptr q, I (Jc7 k), I s.1.length])
   (fun s W => s.1.length ≤ Jc7 k ∧ Ji8 f (above + 1) s.1.length r = some (s.1.map (·.2), s.2.2.2.1) ∧ Kp [q] w5 W ∧ TBlk shQ W q k x.size x.num x.name (.slice s.2.1 s.1.length s.2.2.1) ∧ OwnS W 87 1 s.2.1 s.1.length s.2.2.1 (s.1.map fun y => ptr y.1) ∧ (∀ c ∈ Ja1 s.2.1, w5.heap.size ≤ c) ∧ (∀ c ∈ Ja1 s.2.2.2.2.1, c = b) ∧
    Ja7 W s.2.2.2.2.1 (s.2.2.2.1.flatMap qC) ∧ s.2.2.2.1.length ≤ s.2.2.2.2.2 ∧ s.2.2.2.2.2 ≤ cap ∧ (∀ y ∈ s.2.2.2.1, y ∈ r) ∧
    ∀ y ∈ s.1, ∃ Wy loy F, Jc3 shQ loy Wy y.2 y.1 ∧ q < loy ∧ Kp F Wy W ∧ (∀ b ∈ F, b < loy) ∧ ∀ b ∈ Ja1 s.2.1, b < loy ∨ Wy.heap.size ≤ b)
   (fun s => Jc7 k - s.1.length) ([], none, 0, r, some ⟨b, off1, none⟩, cap - 1) rfl ⟨sI, rfl, Kp.refl _ _, hT5, Jd6 _ _ _, by simp [Ja1], by simp [Ja1], hRt.kp k05 sI, hrt, by dsimp only; omega, sI, sI⟩ ?_
  rintro ⟨ks, bad, bcap, r', rad, rcap⟩ e6 W ⟨hkl, hgk, kW, hTW, hOW, hbq, hrb, hRW, hrc, hrcap, hrm, htr⟩
  dsimp only at hkl hgk hTW hOW hbq hrb hRW hrc hrcap hrm htr ⊢
  have k0W : Kp [] w W := k05.since kW (by simp; omega)
  refine zS ?_
  refine r_if rfl (fun hlt => ?_) (fun hlt => ?_)
  ·refine zS ?_
   refine Zc (grow_ret f (above + 1) (w := W) (l := r') (ad := rad) (cap := rcap) oM (hA.kp k0W sI) hRW hrc oM (fun y hy => hnm y (by simp; right; exact hrm y hy))) ?_
   rintro v W1 ⟨hv, kg⟩
   cases hgf : Jg5 f (above + 1) r' with
   | none =>
    rw [hgf] at hv
    have hv : v = .tuple #[.pointer none, .slice none 0 0] := hv
    subst hv
    have h1 := Jz8 ks.length (Jc7 k - ks.length - 1) r r' _ hgk hgf
    rw [show ks.length + 1 + (Jc7 k - ks.length - 1) = Jc7 k by omega] at h1
    rw [h1] at hg
    rw [hg]
    refine zS ?_
    exact ⟨_, rfl, rfl, k0W.trans kg⟩
   | some y =>
    obtain ⟨t, r2⟩ := y
    rw [hgf] at hv
    obtain ⟨tp, rad2, rcap2, rfl, hTt, hR2, hrc2, hrcap2, hrb2⟩ := hv
    have h1 := Jz3 ks.length r r' r2 _ t hgk hgf
    have hTW1 := kg.b0 hTW
    have hsf := kW.size
    have hsg := kg.size
    refine zS ?_
    refine Zl (v := .slice bad ks.length bcap) rfl hTW1 ?_
    refine zS ?_
    refine Zu [ptr tp] rfl (by simp [Value.oneCell']) rfl dE dE ?_
    intro b2 W2 hb2 hu2
    have kg2 : Kp [] W1 W2 := hu2.new oM
    have hsg2 := kg2.size
    refine Jh3 rfl rfl ((hOW.kp kg sI).kp kg2 sI) hu2.blk rfl rfl rfl rfl (by simp only [maxLen]; omega) oM rfl rfl ?_
    intro bad' bcap' W3 hO3 k23 hn3
    have k13 : Kp (Ja1 bad) W1 W3 := (kg2.mono sI).trans k23
    have hqb : q ∉ Ja1 bad := fun h => by have := hbq q h; omega
    have hTW3 : TBlk shQ W3 q k x.size x.num x.name (.slice bad ks.length bcap) := k13.blk hqb hTW1
    have hbq' : ∀ c ∈ Ja1 bad', w5.heap.size ≤ c := fun c hc => by
     rcases hn3 c hc with h | h
     ·exact hbq c h
     ·omega
    refine zS ?_
    refine Zt (b := q) (off := 10) (v := .slice bad' (ks.length + 1) bcap') rfl hTW3 (by simp [shQ, shO]) ?_
    intro W4 hu4
    refine zS ?_
    have k34 : Kp [q] W3 W4 := hu4.kp [q] (.inl sI)
    have kWW : Kp [q] w5 W4 := by
     exact ((kW.trans (kg.mono sI)).after k13 (fun c hc => .inr (hbq c hc))).trans k34
    have hlen1 : (ks ++ [(tp, t)]).length = ks.length + 1 := sI
    have k14 : Kp (Ja1 bad ++ [q]) W1 W4 := (k13.mono (by simp +contextual)).trans (k34.mono sI)
    have hqb' : q ∉ Ja1 bad' := fun h => by have := hbq' q h; omega
    refine ⟨(ks ++ [(tp, t)], bad', bcap', r2, rad2, rcap2), ?_, ⟨?_, ?_, kWW, ?_, ?_, hbq', ?_, ?_, hrc2, ?_, ?_, ?_⟩, ?_⟩
    ·dsimp only; rw [hlen1]; rfl
    ·dsimp only; omega
    ·dsimp only; rw [hlen1, List.map_append]; exact h1
    ·dsimp only; rw [hlen1]; exact hu4.blk
    ·dsimp only; rw [hlen1, List.map_append]; exact hO3.upd hu4 hqb'
    ·intro c hc; exact hrb c (hrb2 c hc)
    ·dsimp only
     refine hR2.kp k14 (fun c hc => ?_)
     have e := hrb c (hrb2 c hc)
     subst e
     simp only [List.mem_append, List.mem_singleton, not_or]
     exact ⟨fun h => by have := hbq _ h; omega, oM⟩
    ·dsimp only; omega
    ·intro y hy; exact hrm y ((Qh7 _ _ _ _ _ hgf).mem hy)
    ·intro y hy
     dsimp only at hy ⊢
     rcases List.mem_append.1 hy with hy | hy
     ·obtain ⟨Wy, loy, F, g1, g2, g3, g4, g5⟩ := htr y hy
      have hs3 := g3.size
      refine ⟨Wy, loy, F ++ ((Ja1 bad).filter (· < loy) ++ [q]), g1, g2, ?_, fun c hc => ?_, fun c hc => ?_⟩
      ·have e1 : Kp (F ++ ((Ja1 bad).filter (· < loy) ++ [q])) Wy W1 := (g3.mono (by simp +contextual)).trans (kg.mono sI)
       refine e1.after k14 (fun c hc => ?_)
       rcases List.mem_append.1 hc with h | h
       ·rcases g5 c h with h' | h'
        ·left; simp [h, h']
        ·exact .inr h'
       ·left; simp at h; simp [h]
      ·simp only [List.mem_append, List.mem_filter, decide_eq_true_eq, List.mem_singleton] at hc
       rcases hc with h | ⟨_, h⟩ | rfl
       ·exact g4 c h
       ·exact h
       ·exact g2
      ·rcases hn3 c hc with h | h
       ·exact g5 c h
       ·right; omega
     ·simp at hy
      subst hy
      refine ⟨W1, W.heap.size, Ja1 bad ++ [q], hTt, oM, k14, fun c hc => ?_, fun c hc => ?_⟩
      ·rcases List.mem_append.1 hc with h | h
       ·exact hOW.lt c h
       ·simp at h; omega
      ·rcases hn3 c hc with h | h
       ·exact .inl (hOW.lt c h)
       ·right; omega
    ·dsimp only; omega
  ·have hke : ks.length = Jc7 k := oM
   rw [hke] at hgk
   rw [hgk] at hg
   dsimp only at hg
   obtain ⟨hl1, hl2⟩ := Qh1 (Qi9 f (above + 1)) _ _ _ _ hgk
   have hpq : p ∉ [q] := by
    have := k2.size
    simp; omega
   have hBW := kW.blk hpq hB5
   refine zL hBW ?_
   refine Jn8 rfl (fun hsz => ?_) (fun hsz => ?_)
   ·rw [hg, if_neg (by intro h; apply hsz; rw [h]; omega)]
    refine zS ?_
    exact ⟨_, rfl, rfl, k0W⟩
   ·have hsz : x.size = 1 + sumQ (ks.map (·.2)) := oM
    rw [hg, if_pos hsz]
    refine zS ?_
    refine ⟨_, rfl, ⟨q, rad, rcap, rfl, ?_, hRW, hrc, hrcap, fun c hc => by rw [hrb c hc]; simp [Ja1]⟩, k0W⟩
    rw [hk]
    refine tree_mk (lo := w.heap.size) (p := q) (cap := bcap) oM oM ?_ hOW.read (fun c hc => by have := hbq c hc; have := k05.size; omega) (fun y hy => ?_)
    ·have e : ((1 + sumQ (ks.map (·.2)) : Nat) : Int) = x.size := oM
     rw [e]; exact hTW
    ·obtain ⟨Wy, loy, F, g1, g2, g3, g4, _⟩ := htr y hy
     exact (g1.kp g3 g4).lo_le oM
end
end Go.Vc
