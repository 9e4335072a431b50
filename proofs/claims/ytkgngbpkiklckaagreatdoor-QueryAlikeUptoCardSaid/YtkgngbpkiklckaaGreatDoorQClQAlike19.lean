/- Query: Parse. -/
import Derived.Test.YtkgngbpkiklckaaGreatDoorQClQAlike18
import Derived.Test.YtkgngbpkiklckaaGreatDoorQClQAlike10
namespace Go.Vc
open Go Go.Proofs
set_option maxRecDepth 10000
variable {w : World}
theorem body_ret {P : Program} {n : Nat} {fn : Func} {R E : Value → World → Prop} {ds : List Deferred} {a : Act} {e : Env} (hf : Fit n ds a e) (h : Goes P fn a.tmps R E ds .returning w) : bodyP P fn R E .ret a w := by
  show Goes P fn a.tmps R E a.defers .returning w
  rw [hf.defers]; exact h
theorem body_pan {P : Program} {fn : Func} {R E : Value → World → Prop} {ds : List Deferred} {a : Act} {v : Value} (hd : a.defers = ds) (h : Goes P fn a.tmps R E ds (.panicking [{ v, recovered := false }]) w) : bodyP P fn R E (.panic [{ v, recovered := false }]) a w := by
  show Goes P fn a.tmps R E a.defers _ w
  rw [hd]; exact h
theorem parseD_ret (q f : Nat) : DRet Tryz.prog 40 [ptr q, ptr f] .returning w (fun u' w' => u' = .returning ∧ w' = w) := by
  refine enterS none Tryz.call40 Tryz.func40 rfl rfl rfl rfl rfl rfl ?_
  (repeat first|refine zA ?_|refine zg ?_|refine zo rfl rfl trivial ?_)
  refine o_neqNN rfl rfl rfl rfl ?_
  (repeat first|refine zn ?_|refine zk ?_|refine zf rfl ?_)
  exact rfl
set_option maxHeartbeats 3200000 in
theorem parseD_pan {q f : Nat} {cq cf : List Value} (c i : Int) (hq : Blk w q cq 24) (hlq : cq.length = 1) (hf : Blk w f cf 38) (hlf : cf.length = 2) (hqf : q ≠ f) :
    DRet Tryz.prog 40 [ptr q, ptr f] (.panicking [{ v := refV c i, recovered := false }]) w (fun u' w' => u' = .panicking [{ v := refV c i, recovered := true }] ∧ Blk w' q [.slice none 0 0] 24 ∧ Blk w' f [I c, I i] 38 ∧ Kp [q, f] w w') := by
  have hql := hq.lt
  have hfl := hf.lt
  refine enterS (some (refV c i)) Tryz.call40 Tryz.func40 rfl rfl rfl rfl rfl rfl ?_
  (repeat first|refine zA ?_|refine zg ?_|refine zo rfl rfl trivial ?_|refine zn ?_|refine zt rfl ?_)
  refine o_assertYes (v := .agg ⟨[I c, I i]⟩) rfl rfl rfl rfl rfl rfl ?_
  (repeat refine zo rfl rfl trivial ?_)
  refine o_alloc rfl rfl rfl rfl ?_
  intro b w2 hb hu2
  refine o_storeA (b := b) (cs := [I c, I i]) rfl hu2.blk (Nat.le_refl _) rfl (by simp [Value.oneCell']) rfl rfl rfl rfl ?_
  intro w3 hu3
  have k3 : Kp [] w w3 := (hu2.kp [] (.inr (by omega))).since (hu3.kp [b] (.inl (by simp))) (by simp; omega)
  have hB3 : Blk w3 b [I c, I i] 97 := hu3.blk
  have hq3 := k3.blk (by simp) hq
  have hf3 := k3.blk (by simp) hf
  (repeat first|refine zA ?_|refine zB ?_|refine zg ?_|refine zo rfl rfl trivial ?_|refine zn ?_|refine zk ?_|refine zf rfl ?_)
  refine r_any (fun w' => Blk w' b [I c, I i] 97) 5 follows_mixed (by kernel_rfl) ?_
  have sd := Sm.drew w3
  generalize ({ w3 with drawn := w3.drawn + 1 } : World) = wd at sd ⊢
  have kd : Kp [q, f] w wd := (k3.trans (sd.kp [])).mono (by simp)
  have hBd := sd.blk hB3
  have hqd := sd.blk hq3
  have hfd := sd.blk hf3
  refine t_seg [0, 1, 2] 2 (by kernel_rfl) (by kernel_rfl) (by kernel_rfl) hBd ?_
  try dsimp only [List.map_cons, List.map_nil]
  refine x_build [.slice none 0 0] rfl rfl rfl rfl rfl rfl rfl rfl ?_
  (repeat refine xo rfl rfl trivial ?_)
  refine x_loadA (vs := [I c, I i]) rfl rfl (fun w' h' j v hv => by rw [Nat.zero_add]; exact h'.cell hv) rfl rfl rfl rfl rfl rfl ?_
  (repeat refine xn ?_)
  have hbq : b ≠ q := by omega
  have hbf : b ≠ f := by omega
  refine t_one 3 (by kernel_rfl) rfl ?_
  refine o_storeA (b := q) (cs := [.slice none 0 0]) rfl hqd (by rw [hlq]; exact Nat.le_refl _) rfl (by simp [Value.oneCell']) rfl rfl rfl rfl ?_
  intro w4 hu4
  refine o_nil ⟨.inr (hu4.kept hbq hBd), ?_⟩
  refine t_one 4 (by kernel_rfl) rfl ?_
  refine o_storeA (b := f) (cs := [I c, I i]) rfl (hu4.kept hqf.symm hfd) (by rw [hlf]; exact Nat.le_refl _) rfl (by simp [Value.oneCell']) rfl rfl rfl rfl ?_
  intro w5 hu5
  refine o_nil ⟨.inl (by kernel_rfl), t_end (by kernel_rfl) ?_⟩
  have h4 : Blk w4 q [.slice none 0 0] 24 := by
    have := hu4.blk
    obtain ⟨x, rfl⟩ := List.length_eq_one_iff.1 hlq
    exact this
  have h5 : Blk w5 f [I c, I i] 38 := by
    have := hu5.blk
    match cf, hlf, this with
    | [x, y], _, h => exact h
  exact ⟨hu5.kept hqf h4, h5, (kd.trans (hu4.kp _ (.inl (by simp)))).trans (hu5.kp _ (.inl (by simp)))⟩
end Go.Vc
/- Query: Parse. -/
namespace Go.Vc
open Go Go.Proofs
set_option maxRecDepth 10000
variable {w : World}
/-- what Parse hands out -/
def ParseV (r : Except (Int × Int) QT) (w : World) (v : Value) (w' : World) : Prop :=
  match r with
  | .ok t => ∃ ad cap, v = .tuple #[.agg ⟨[.slice ad t.size cap]⟩, .agg ⟨[I 0, I 0]⟩] ∧ OwnS w' 81 4 ad t.size cap (t.rows.flatMap qC) ∧ ∀ b ∈ blkOf ad, w.heap.size ≤ b
  | .error (c, i) => v = .tuple #[.agg ⟨[.slice none 0 0]⟩, .agg ⟨[I c, I i]⟩]
/-- what is made of what was read -/
def endM (t : QT) : TS → Except (Int × Int) QT
  | .tok u _ => .error (301, u.at_)
  | _ => if 64 < t.depth then .error (302, 0) else .ok t
theorem zsh_len (o : Int) : (zsh o).length = 6 := rfl
set_option maxHeartbeats 12800000 in
theorem Parse_ret (hA : AscW w) (txt : List UInt8) (hmax : txt.length ≤ 9223372036854775806) : Ret Tryz.prog 14 [S txt] w (fun v w' => ParseV (parseM txt) w v w' ∧ Kp [] w w') := by
  refine RetP.ret (E := fun _ _ => False) ?_ (fun _ _ h => h)
  refine enterD Tryz.call14 Tryz.func14 rfl rfl rfl ?_
  refine t_seq (R := fun _ _ => False) (pan := fun _ _ => False) ?_ (fun _ _ _ _ h => h.elim) (fun _ _ _ _ h => h.elim)
  (repeat refine zg ?_)
  refine o_alloc rfl rfl rfl rfl ?_
  intro q w1 hq hu1
  refine o_alloc rfl rfl rfl rfl ?_
  intro f w2 hf hu2
  have s1 := hu1.size
  have s1' := hu1.lt
  have s2 := hu2.lt
  have k1 : Kp [] w w1 := hu1.kp [] (.inr (by omega))
  have k2 : Kp [] w w2 := k1.trans (hu2.kp [] (.inr (by omega)))
  have hqf : q ≠ f := by omega
  have hBq : Blk w2 q [.slice none 0 0] 24 := hu2.kept hqf hu1.blk
  have hBf : Blk w2 f [I 0, I 0] 38 := hu2.blk
  clear hu1 hu2
  (repeat refine zn ?_)
  refine t_seq (R := fun e w' => ∃ us, resC Tryz.prog e w' [.cell 2 24, .cell 3 38] us ∧ ParseV (parseM txt) w (tupV us) w' ∧ Kp [] w w') (pan := fun _ _ => False) ?_ (fun a e w' hfit hR => ?_) (fun _ _ _ _ h => h.elim)
  rotate_left
  · obtain ⟨us, g1, g2, g3⟩ := hR
    exact body_ret hfit (goes_ret rfl hfit g1 ⟨g2, g3⟩)
  have resE : ∀ {e : Env} {w' : World} {c i : Int}, e 2 = ptr q → e 3 = ptr f → Blk w' q [.slice none 0 0] 24 → Blk w' f [I c, I i] 38 → resC Tryz.prog e w' [.cell 2 24, .cell 3 38] [.agg ⟨[.slice none 0 0]⟩, .agg ⟨[I c, I i]⟩] := fun h1 h2 h3 h4 =>
    ⟨⟨_, h1, run_loadB h3 rfl rfl rfl rfl⟩, ⟨_, h2, run_loadB h4 rfl rfl rfl rfl⟩, trivial⟩
  (repeat first|refine zA ?_|refine zg ?_|refine zo rfl rfl trivial ?_|refine zn ?_)
  refine r_if rfl (fun hc => ?_) (fun hc => ?_)
  · have hpm : parseM txt = .error (3, 4096) := by unfold parseM; rw [if_pos (by omega)]
    rw [hpm]
    (repeat first|refine zA ?_|refine zg ?_)
    refine o_build [.slice none 0 0] rfl rfl rfl rfl rfl rfl rfl ?_
    refine o_build [I 3, I 4096] rfl rfl rfl rfl rfl rfl rfl ?_
    refine o_storeA (b := q) (cs := [.slice none 0 0]) rfl hBq (Nat.le_refl _) rfl (by simp [Value.oneCell']) rfl rfl rfl rfl ?_
    intro w3 hu3
    refine o_storeA (b := f) (cs := [I 3, I 4096]) rfl (hu3.kept hqf.symm hBf) (Nat.le_refl _) rfl (by simp [Value.oneCell']) rfl rfl rfl rfl ?_
    intro w4 hu4
    (repeat first|refine zn ?_|refine zr ?_)
    exact ⟨_, resE rfl rfl (hu4.kept hqf hu3.blk) hu4.blk, rfl, (k2.since (hu3.kp [q] (.inl (by simp))) (by simp; omega)).since (hu4.kp [f] (.inl (by simp))) (by simp; omega)⟩
  · have htl : txt.length ≤ 4096 := by omega
    have hpm : parseM txt = (match lex txt 0 with
      | .bad i => .error (300, i)
      | s => rd (20 * txt.length + 20) 0 s >>= fun x => endM x.1 x.2) := by
      unfold parseM; rw [if_neg (by omega)]
      cases lex txt 0 <;> rfl
    (repeat refine zk ?_)
    refine t_seqD ?_
    refine oq_run rfl rfl ?_
    refine oq_defer rfl rfl ?_
    refine oq_nil ?_
    -- what holds at a panic
    have dies : ∀ {a : Act} {e : Env} {v : Value} {w' : World}, Fit Tryz.f14.ntmps [⟨.fn (.func 40) #[ptr q, ptr f], #[]⟩] a e → e 2 = ptr q → e 3 = ptr f → (∃ c i : Int, parseM txt = .error (c, i) ∧ v = refV c i ∧ Kp [] w2 w') →
        bodyP Tryz.prog Tryz.f14 (fun v w' => ParseV (parseM txt) w v w' ∧ Kp [] w w') (fun _ _ => False) (.panic [{ v, recovered := false }]) a w' := by
      rintro a e v w' hfit h2 h3 ⟨c, i, g1, rfl, g3⟩
      refine body_pan hfit.defers (goes_one (cap := [ptr q, ptr f]) (by intro h; cases h) ((parseD_pan c i (g3.blk (by simp) hBq) rfl (g3.blk (by simp) hBf) rfl hqf).mono ?_))
      rintro u' w'' ⟨rfl, b1, b2, b3⟩
      exact goes_ret rfl hfit (resE h2 h3 b1 b2) ⟨by rw [g1]; rfl, (k2.trans g3).since b3 (by simp; omega)⟩
    refine t_seq (R := fun _ _ => False) (pan := fun _ _ => False) ?_ (fun _ _ _ _ h => h.elim) (fun _ _ _ _ h => h.elim)
    (repeat first|refine zg ?_|refine zo rfl rfl trivial ?_)
    refine o_build (pC txt 0 ⟨[], 0, 0⟩) rfl rfl rfl rfl rfl (by kernel_rfl) rfl ?_
    refine o_box rfl rfl rfl ?_
    intro p w3 hp hu3
    have k3 : Kp [] w2 w3 := hu3.kp [] (.inr (by omega))
    have hB3 : PB w3 p txt 0 ⟨[], 0, 0⟩ := hu3.blk
    clear hu3
    have y2 := k2.size
    have hA3 := hA.kp (k2.trans k3) (by simp)
    have hpg : p ≠ 0 := by have := hA.lt; omega
    (repeat first|refine zo rfl rfl trivial ?_|refine zn ?_)
    -- the first token
    refine t_then (t_region ?_)
    refine oq_run rfl rfl ?_
    refine oq_callP (step_ret hB3 htl (Nat.zero_le _)) rfl rfl (fun a v w' hfit hE => ?_) ?_
    · obtain ⟨j, g1, g2, g3⟩ := hE
      exact dies hfit rfl rfl ⟨300, j, by rw [hpm, g1], g2, k3.since g3 (by simp; omega)⟩
    rintro v w4 ⟨rfl, hP4, k4⟩
    have k24 : Kp [] w2 w4 := k3.since k4 (by simp; omega)
    refine oq_then ?_
    have hpm : parseM txt = (rd (20 * txt.length + 20) 0 (lex txt 0) >>= fun x => endM x.1 x.2) := by
      rw [hpm]
      cases hx : lex txt 0 with
      | bad i => rw [hx] at hP4; exact hP4.elim
      | stop i => rfl
      | tok t r => rfl
    have hll := lex_len (txt := txt) txt.length 0 (by omega) (by omega)
    -- the question
    refine t_then (t_region ?_)
    refine oq_run rfl rfl ?_
    refine oq_callP ((all_ok (20 * txt.length + 20)).1 (hA3.kp k4 (by simpa using Ne.symm hpg)) hpg hP4 htl (by omega) (by omega)) rfl rfl (fun a v w' hfit hE => ?_) ?_
    · obtain ⟨c1, i1, g1, g2, g3⟩ := hE
      exact dies hfit rfl rfl ⟨c1, i1, by rw [hpm, g1]; rfl, g2, k24.since g3 (by simp; omega)⟩
    rintro v w5 ⟨t, s5, g5, ⟨tq, rfl, hT5⟩, hP5, k5⟩
    have k25 : Kp [] w2 w5 := k24.since k5 (by simp; omega)
    rw [g5] at hpm
    have hpm : parseM txt = endM t s5 := hpm
    have hz := (rd_size _).1 _ _ _ _ g5
    refine oq_run rfl rfl ?_
    refine oq_then ?_
    -- the end
    refine t_then ?_
    refine t_seq (R := fun _ _ => False) (pan := fun _ _ => False) ?_ (fun _ _ _ _ h => h.elim) (fun _ _ _ _ h => h.elim)
    have hB5 := hP5.pb
    (repeat first|refine zg ?_|refine zo rfl rfl trivial ?_|refine zn ?_|refine o_load rfl hB5 rfl rfl rfl rfl rfl ?_)
    refine t_cond rfl (fun hc => ?_) (fun hc => ?_)
    · have hne : ¬ s5.hd.text = [] := by simpa using hc
      refine t_region ?_
      refine oq_run rfl rfl ?_
      refine oq_callP (off_ret hB5 (fun _ _ => False)) rfl rfl (fun a v w' hfit hE => ?_) (fun v w' h => h.elim)
      cases s5 with
      | tok u r => exact dies hfit rfl rfl ⟨301, u.at_, hpm, hE.1, hE.2 ▸ k25⟩
      | stop j => exact absurd rfl hne
      | bad j => exact absurd rfl hne
    · have he : s5.hd.text = [] := by simpa using hc
      have hpm : parseM txt = (if 64 < t.depth then .error (302, 0) else .ok t) := by
        cases s5 with
        | tok u r =>
          obtain ⟨_, _, _, h4⟩ := hP5
          have he : u.text = [] := he
          rw [he] at h4; simp at h4
        | stop j => exact hpm
        | bad j => exact hpm
      refine t_skip ?_
      refine t_then (t_region ?_)
      refine oq_run rfl rfl ?_
      refine oq_callP (lay_ok t (w0 := w5) (n := 0) (cap := 0) (ad := none) (xs := []) 0 zsh_len hT5 (Kp.refl _ _) (ownS_nil _ _ _) (by simp [blkOf]) (by omega) (by omega)) rfl rfl (fun a v w' hfit hE => ?_) ?_
      · obtain ⟨g1, g2, g3⟩ := hE
        exact dies hfit rfl rfl ⟨302, 0, by rw [hpm, if_pos (by omega)], g2, k25.trans g3⟩
      rintro v w6 ⟨g1, ad, cap, hv, hO6, k6, hf6⟩
      rw [Nat.zero_add] at hv
      subst hv
      rw [if_neg (by omega)] at hpm
      rw [Nat.zero_add, List.nil_append] at hO6
      have k26 := k25.trans k6
      have y5 := k25.size
      refine oq_ops (K := fun e w' => e 2 = ptr q ∧ e 3 = ptr f ∧ Blk w' q [.slice ad t.size cap] 24 ∧ Blk w' f [I 0, I 0] 38 ∧ Kp [q, f] w6 w') ?_ ?_
      · refine o_build [.slice ad t.size cap] rfl rfl rfl rfl rfl rfl rfl ?_
        refine o_build [I 0, I 0] rfl rfl rfl rfl rfl rfl rfl ?_
        refine o_storeA (b := q) (cs := [.slice ad t.size cap]) rfl (k26.blk (by simp) hBq) (Nat.le_refl _) rfl (by simp [Value.oneCell']) rfl rfl rfl rfl ?_
        intro w7 hu7
        refine o_storeA (b := f) (cs := [I 0, I 0]) rfl (hu7.kept hqf.symm (k26.blk (by simp) hBf)) (Nat.le_refl _) rfl (by simp [Value.oneCell']) rfl rfl rfl rfl ?_
        intro w8 hu8
        refine o_nil ?_
        exact ⟨rfl, rfl, hu8.kept hqf hu7.blk, hu8.blk, (hu7.kp _ (.inl (by simp))).trans (hu8.kp _ (.inl (by simp)))⟩
      · rintro a e w7 hfit ⟨h2, h3, hBq7, hBf7, k7⟩
        refine wpIn_ret ?_
        refine body_ret hfit (goes_one (cap := [ptr q, ptr f]) (by intro h; cases h) ((parseD_ret q f).mono ?_))
        rintro u' w8 ⟨rfl, rfl⟩
        refine goes_ret rfl hfit (us := [.agg ⟨[.slice ad t.size cap]⟩, .agg ⟨[I 0, I 0]⟩]) ⟨⟨_, h2, run_loadB hBq7 rfl rfl rfl rfl⟩, ⟨_, h3, run_loadB hBf7 rfl rfl rfl rfl⟩, trivial⟩ ⟨?_, (k2.trans k26).since k7 (by simp; omega)⟩
        rw [hpm]
        exact ⟨ad, cap, rfl, hO6.kp k7 (fun b hb => by have := hf6 b hb; simp; omega), fun b hb => by have := hf6 b hb; omega⟩
end Go.Vc
/- Query: how a tree grows, kid by kid, in plain Lean (no program in sight). -/
namespace Go.Vc
/-- so many kids off a row -/
def growK (f above : Nat) : Nat → List QN → Option (List QT × List QN)
  | 0, r => some ([], r)
  | k + 1, r => match growF f above r with
    | none => none
    | some (a, r1) => match growK f above k r1 with
      | none => none
      | some (l, r2) => some (a :: l, r2)
def mkT (op num : Int) (name : List UInt8) : List QT → QT
  | [] => .n0 op num name
  | [a] => .n1 op num name a
  | a :: b :: _ => .n2 op num name a b
def sumQ (l : List QT) : Nat := (l.map QT.size).sum
theorem kidsO_le (k : Nat) : kidsO k ≤ 2 := by
  unfold kidsO; split <;> (try omega); split <;> (try omega); split <;> omega
theorem growF_cons (f above : Nat) (x : QN) (r : List QN) : growF (f + 1) above (x :: r) = if 64 < above then none else if ownQ x.op x.num x.name = false then none else match growK f (above + 1) (kidsO x.op.toNat) r with
    | none => none
    | some (l, r') => if x.size = 1 + sumQ l then some (mkT x.op x.num x.name l, r') else none := by
  rw [growF]
  split
  · rfl
  · split
    · rfl
    · have h3 : kidsO x.op.toNat = 0 ∨ kidsO x.op.toNat = 1 ∨ kidsO x.op.toNat = 2 := by have := kidsO_le x.op.toNat; omega
      rcases h3 with h | h | h
      · rw [h, if_pos rfl]
        simp [growK, sumQ, mkT]
      · rw [h, if_neg (by omega)]
        simp only [growK]
        cases growF f (above + 1) r with
        | none => rfl
        | some y => simp [sumQ, mkT]
      · rw [h, if_neg (by omega)]
        simp only [growK]
        cases growF f (above + 1) r with
        | none => rfl
        | some y =>
          obtain ⟨a, r1⟩ := y
          dsimp only
          rw [if_neg (by omega)]
          cases growF f (above + 1) r1 with
          | none => rfl
          | some z =>
            have e : ∀ m : Nat, (1 + (a.size : Int) + m) = 1 + ((a.size + m : Nat) : Int) := by intro m; omega
            simp [sumQ, mkT]
            have : (1 + (a.size : Int) + z.1.size) = 1 + (a.size + z.1.size) := by omega
            rw [this]
theorem growK_snoc {f above : Nat} : ∀ (k : Nat) (r r1 r2 : List QN) (l : List QT) (a : QT), growK f above k r = some (l, r1) → growF f above r1 = some (a, r2) → growK f above (k + 1) r = some (l ++ [a], r2)
  | 0, r, r1, r2, l, a, h, h2 => by
    simp [growK] at h
    obtain ⟨rfl, rfl⟩ := h
    simp [growK, h2]
  | k + 1, r, r1, r2, l, a, h, h2 => by
    rw [growK] at h
    rw [growK]
    cases hg : growF f above r with
    | none => rw [hg] at h; cases h
    | some y =>
      obtain ⟨b, r'⟩ := y
      rw [hg] at h
      dsimp only at h ⊢
      cases hk : growK f above k r' with
      | none => rw [hk] at h; cases h
      | some z =>
        obtain ⟨l', r''⟩ := z
        rw [hk] at h
        cases h
        rw [growK_snoc k r' r1 r2 l' a hk h2]
        rfl
theorem growK_none {f above : Nat} : ∀ (k j : Nat) (r r1 : List QN) (l : List QT), growK f above k r = some (l, r1) → growF f above r1 = none → growK f above (k + 1 + j) r = none
  | 0, j, r, r1, l, h, h2 => by
    simp [growK] at h
    obtain ⟨rfl, rfl⟩ := h
    rw [show 0 + 1 + j = j + 1 by omega]
    simp [growK, h2]
  | k + 1, j, r, r1, l, h, h2 => by
    rw [growK] at h
    rw [show k + 1 + 1 + j = (k + 1 + j) + 1 by omega, growK]
    cases hg : growF f above r with
    | none => rfl
    | some y =>
      obtain ⟨b, r'⟩ := y
      rw [hg] at h
      dsimp only at h ⊢
      cases hk : growK f above k r' with
      | none => rw [hk] at h; cases h
      | some z =>
        obtain ⟨l', r''⟩ := z
        rw [hk] at h
        cases h
        rw [growK_none k j r' r1 l' hk h2]
theorem growK_len {f above : Nat} (hF : ∀ l t r, growF f above l = some (t, r) → r.length + t.size = l.length) : ∀ (k : Nat) (r r1 : List QN) (l : List QT), growK f above k r = some (l, r1) → r1.length + sumQ l = r.length ∧ l.length = k
  | 0, r, r1, l, h => by simp [growK] at h; obtain ⟨rfl, rfl⟩ := h; simp [sumQ]
  | k + 1, r, r1, l, h => by
    rw [growK] at h
    cases hg : growF f above r with
    | none => rw [hg] at h; cases h
    | some y =>
      obtain ⟨b, r'⟩ := y
      rw [hg] at h
      dsimp only at h
      cases hk : growK f above k r' with
      | none => rw [hk] at h; cases h
      | some z =>
        obtain ⟨l', r''⟩ := z
        rw [hk] at h
        cases h
        have := hF _ _ _ hg
        obtain ⟨h1, h2⟩ := growK_len hF k r' r1 l' hk
        refine ⟨?_, by simp [h2]⟩
        simp only [sumQ, List.map_cons, List.sum_cons] at h1 ⊢
        omega
theorem mkT_size {op num : Int} {name : List UInt8} {l : List QT} (h : l.length ≤ 2) : (mkT op num name l).size = 1 + sumQ l := by
  match l, h with
  | [], _ => rfl
  | [a], _ => simp [mkT, QT.size, sumQ]
  | [a, b], _ => simp [mkT, QT.size, sumQ]; omega
theorem growF_len : ∀ (f above : Nat) (l : List QN) (t : QT) (r : List QN), growF f above l = some (t, r) → r.length + t.size = l.length
  | 0, _, _, _, _, h => by simp [growF] at h
  | f + 1, _, [], _, _, h => by simp [growF] at h
  | f + 1, above, x :: r, t, r', h => by
    rw [growF_cons] at h
    split at h
    · cases h
    · split at h
      · cases h
      · split at h
        · cases h
        · rename_i l r2 hk
          obtain ⟨h1, h2⟩ := growK_len (growF_len f (above + 1)) _ _ _ _ hk
          split at h
          · cases h
            rw [mkT_size (by rw [h2]; exact kidsO_le _)]
            simp; omega
          · cases h
theorem growK_suf {f above : Nat} (hF : ∀ l t r, growF f above l = some (t, r) → r <:+ l) : ∀ (k : Nat) (r r1 : List QN) (l : List QT), growK f above k r = some (l, r1) → r1 <:+ r
  | 0, r, r1, l, h => by simp [growK] at h; obtain ⟨rfl, rfl⟩ := h; exact List.suffix_refl _
  | k + 1, r, r1, l, h => by
    rw [growK] at h
    cases hg : growF f above r with
    | none => rw [hg] at h; cases h
    | some y =>
      obtain ⟨b, r'⟩ := y
      rw [hg] at h
      dsimp only at h
      cases hk : growK f above k r' with
      | none => rw [hk] at h; cases h
      | some z =>
        obtain ⟨l', r''⟩ := z
        rw [hk] at h
        cases h
        exact (growK_suf hF k r' r1 l' hk).trans (hF _ _ _ hg)
theorem growF_suf : ∀ (f above : Nat) (l : List QN) (t : QT) (r : List QN), growF f above l = some (t, r) → r <:+ l
  | 0, _, _, _, _, h => by simp [growF] at h
  | f + 1, _, [], _, _, h => by simp [growF] at h
  | f + 1, above, x :: r, t, r', h => by
    rw [growF_cons] at h
    split at h
    · cases h
    · split at h
      · cases h
      · split at h
        · cases h
        · rename_i l r2 hk
          have h1 := growK_suf (growF_suf f (above + 1)) _ _ _ _ hk
          split at h
          · cases h
            exact h1.trans (List.suffix_cons _ _)
          · cases h
end Go.Vc
