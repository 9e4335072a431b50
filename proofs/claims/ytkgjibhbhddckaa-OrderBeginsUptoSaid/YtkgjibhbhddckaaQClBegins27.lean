/- order: best, First, Pair. -/
import Derived.Test.YtkgjibhbhddckaaQClBegins26
namespace Go.Vc
open Go Go.Proofs
set_option maxRecDepth 10000
variable {w : World}
def bestGo (wb : P3 → Bool) : Option P3 → List P3 → Option P3
  | acc, [] => acc
  | acc, x :: r => match acc with
    | some b => if b.2.2 < x.2.2 then some b else bestGo wb (if wb x = true then some x else some b) r
    | none => bestGo wb (if wb x = true then some x else none) r
theorem bestGo_step (wb : P3 → Bool) (acc : Option P3) (x : P3) (r : List P3) (h : ∀ b, acc = some b → ¬ b.2.2 < x.2.2) : bestGo wb acc (x :: r) = bestGo wb (if wb x = true then some x else acc) r := by
  cases acc with
  | none => rfl
  | some b => simp only [bestGo]; rw [if_neg (h b rfl)]
theorem bestGo_stop (wb : P3 → Bool) (b x : P3) (r : List P3) (h : b.2.2 < x.2.2) : bestGo wb (some b) (x :: r) = some b := by
  simp only [bestGo]; rw [if_pos h]
def stopB (acc : Option P3) (x : P3) : Bool := match acc with
  | some b => decide (b.2.2 < x.2.2)
  | none => false
section
variable {p : Option Addr} {F : List Nat} {E : List Ev} {R : List Int}
structure BestI (w W : World) (b4 b6 b7 bw : Nat) (fv : Value) (acc : Option P3) : Prop where
  b6_ : Blk W b6 (pairC (acc.getD (0, 0, 0))) 53
  b7_ : Blk W b7 [.bool acc.isSome] 4
  bw_ : Blk W bw [fv] 123
  b4_ : Blk W b4 [I 0, I 0, I 0] 53
  kp : Kp [] w W
theorem BestI.nc {W W' : World} {b4 b6 b7 bw B : Nat} {fv : Value} {acc : Option P3} (h : BestI w W b4 b6 b7 bw fv acc) (hn : Nc B W W') (hB : w.heap.size ≤ B) : BestI w W' b4 b6 b7 bw fv acc :=
  ⟨hn.blk h.b6_, hn.blk h.b7_, hn.blk h.bw_, hn.blk h.b4_, hn.kp h.kp hB⟩
theorem BestI.kp0 {W W' : World} {b4 b6 b7 bw : Nat} {fv : Value} {acc : Option P3} (h : BestI w W b4 b6 b7 bw fv acc) (hk : Kp [] W W') : BestI w W' b4 b6 b7 bw fv acc :=
  ⟨hk.blk (by simp) h.b6_, hk.blk (by simp) h.b7_, hk.blk (by simp) h.bw_, hk.blk (by simp) h.b4_, h.kp.trans hk⟩
set_option maxHeartbeats 6400000 in
theorem obest_ret (h : OX w p F E R) {f : FuncId} {caps : List Value} {wb : P3 → Bool} {Fw : List Nat} (hF : ∀ b, b ∈ Fw → b < w.heap.size)
    (hwant : ∀ (W : World) (x : P3), (∀ b, b ∈ Fw → W.heap[b]? = w.heap[b]?) → Ret Try.prog f (pairE x ++ caps) W (fun v w' => v = .bool (wb x) ∧ Kp [] W w')) :
    Ret Try.prog 72 [.pointer p, .func (.func f) #[] ⟨caps⟩] w (fun v w' => v = .tuple #[.agg ⟨pairC ((bestGo wb none (racesN E R E.length)).getD (0, 0, 0))⟩, .bool (bestGo wb none (racesN E R E.length)).isSome] ∧ Kp [] w w') := by
  have hw := h.lt
  refine enterMC Try.call72 Try.func72 rfl rfl rfl rfl ?_
  refine m_seq (m_of ?_)
  (repeat refine zg ?_)
  refine o_box rfl rfl rfl ?_
  intro bw w1 hbw hu1
  refine o_alloc rfl rfl rfl rfl ?_
  intro b4 w2 hb4 hu2
  (repeat first|refine zo rfl rfl trivial ?_|refine zn ?_)
  refine m_seq (m_of ?_)
  (repeat refine zg ?_)
  refine o_alloc rfl rfl rfl rfl ?_
  intro b6 w3 hb6 hu3
  (repeat refine zn ?_)
  refine m_seq (m_of ?_)
  (repeat refine zg ?_)
  refine o_alloc rfl rfl rfl rfl ?_
  intro b7 w4 hb7 hu4
  refine o_store (v := .bool false) (c := none) rfl hu4.blk (by simp [Value.cells]) rfl rfl rfl rfl rfl rfl ?_
  intro w5 hu5
  have z1 := hu1.lt
  have z2 := hu2.lt
  have z3 := hu3.lt
  have z4 := hu4.lt
  have k1 := hu1.kp [] (.inr (by omega))
  have k2 := hu2.kp [] (.inr (by omega))
  have k3 := hu3.kp [] (.inr (by omega))
  have k4 := hu4.kp [] (.inr (by omega))
  have s1 := k1.size
  have s2 := k2.size
  have s3 := k3.size
  have s4 := k4.size
  have k5 := hu5.kp [b7] (.inl (by simp))
  have s5 := k5.size
  have k05 : Kp [] w w5 := (((k1.trans k2).trans k3).trans k4).since k5 (by simp; omega)
  have hfresh : ∀ b, b ∈ [b7] → b ≠ bw ∧ b ≠ b4 ∧ b ≠ b6 := by simp; omega
  have g5 : BestI w w5 b4 b6 b7 bw (.func (.func f) #[] ⟨caps⟩) none :=
    ⟨k5.blk (by simp; omega) (k4.blk (by simp) hu3.blk), hu5.blk, k5.blk (by simp; omega) (k4.blk (by simp) (k3.blk (by simp) (k2.blk (by simp) hu1.blk))), k5.blk (by simp; omega) (k4.blk (by simp) (k3.blk (by simp) hu2.blk)), k05⟩
  have h5 := h.kp0 k05
  (repeat refine zn ?_)
  refine m_seq (m_seq (m_of ?_))
  (repeat first|refine zg ?_|refine zo rfl rfl trivial ?_)
  refine o_call (xAll_ret h5) rfl rfl rfl ?_
  rintro v w6 ⟨bx, hseq, k6, hbx⟩
  obtain ⟨fi, lb, rfl, hI⟩ := hseq.is
  have g6 := g5.kp0 k6
  have s6 := k6.size
  have k06 := k05.trans k6
  have l4 := g6.b4_.lt
  have l6 := g6.b6_.lt
  have l7 := g6.b7_.lt
  have lw := g6.bw_.lt
  have hnF : ∀ b, b = b6 ∨ b = b7 ∨ b = b4 → b ∉ bx :: F := fun b hb hm => by
    rcases List.mem_cons.1 hm with rfl | hm
    · omega
    · have := hw b hm; omega
  (repeat refine zn ?_)
  refine m_block ?_
  refine m_range2 hI [0] (fun pre W => ∃ acc, BestI w W b4 b6 b7 bw (.func (.func f) #[] ⟨caps⟩) acc ∧ ∀ post, bestGo wb none (pre ++ post) = bestGo wb acc post)
    (fun c pre W => c = .exit 0 ∧ ∃ acc, BestI w W b4 b6 b7 bw (.func (.func f) #[] ⟨caps⟩) acc ∧ ∀ post, bestGo wb none (pre ++ post) = acc) rfl rfl (fun _ => rfl) ?_ ?_ ?_ ?_ ?_ ?_
  · rintro pre W1 W2 ⟨acc, hg, hq⟩ hnc
    exact ⟨acc, hg.nc hnc k06.size, hq⟩
  · rintro c pre W1 W2 ⟨hc, acc, hg, hq⟩ hnc
    exact ⟨hc, acc, hg.nc hnc k06.size, hq⟩
  · exact ⟨none, g6, fun post => rfl⟩
  · rintro D l r pre x post W hx' hD hl ⟨acc, hg, hq⟩
    (repeat refine zg ?_)
    refine o_alloc rfl rfl rfl rfl ?_
    intro b8 W1 hb8 hu8
    refine o_storeA (cs := pairC x) rfl hu8.blk (Nat.le_refl _) rfl (by simp [Value.oneCell']) rfl rfl rfl rfl ?_
    intro W1' hu8'
    have k8 : Kp [] W W1' := (hu8.kp [] (.inr (by omega))).since (hu8'.kp [b8] (.inl (by simp))) (by simp; omega)
    have hB8' : Blk W1' b8 (pairC x) 53 := hu8'.blk
    (repeat refine zn ?_)
    refine ⟨k8, ?_⟩
    intro W2 hnc hkeep
    have hB8 := hnc.blk hB8'
    have hg2 := (hg.kp0 k8).nc hnc k06.size
    have l82 := hB8.lt
    have hx2 : ∀ post, bestGo wb none (pre ++ x :: post) = bestGo wb acc (x :: post) := fun post => hq _
    have sg := hg.kp.size
    have hcap : ∀ W3, Kp [b6, b7] W2 W3 → Keeps D l r (bx :: F) w6 W3 := fun W3 hk => hkeep.kp (fun b hb => by
        have := hg2.kp.size
        have := hg2.b6_.lt
        rcases List.mem_cons.1 hb with rfl | hb
        · have q := hI.1 b (by simp); have := (Array.getElem?_eq_some_iff.1 hkeep.shut).1; omega
        · have := hw b hb; omega) hk (by simp; omega) (by simp; omega) (fun b hb hb2 => by
        have : b = b6 ∨ b = b7 ∨ b = b4 := by simp at hb2; omega
        exact hnF b this hb)
    (repeat first|refine zA ?_|refine zB ?_|refine zg ?_|refine zb ?_)
    have hxs : x.2.2 = x.2.2 := rfl
    refine o_bool [3, 6, 7, 8] [ptr bw, ptr b6, ptr b7, ptr b8] 19 (stopB acc x) (fun W => W = W2) ?_ ?_
    · refine o_load rfl hg2.b7_ rfl rfl rfl rfl rfl ?_
      (repeat refine zo rfl rfl trivial ?_)
      cases acc with
      | none =>
        simp only [Option.isSome_none]
        (repeat first|refine zo rfl rfl trivial ?_|refine zn ?_|refine zU rfl rfl rfl ?_)
        exact ⟨rfl, ⟨_, rfl, rfl⟩, rfl⟩
      | some b =>
        simp only [Option.isSome_some]
        (repeat first|refine zo rfl rfl trivial ?_|refine zT rfl rfl rfl ?_)
        refine o_load (b := b8) (off := 2) (v := I (x.2.2 : Int)) rfl hB8 rfl rfl rfl rfl rfl ?_
        (repeat refine zo rfl rfl trivial ?_)
        refine o_load (b := b6) (off := 2) (v := I (b.2.2 : Int)) rfl hg2.b6_ rfl rfl rfl rfl rfl ?_
        (repeat first|refine zo rfl rfl trivial ?_|refine zn ?_)
        refine ⟨rfl, ⟨_, rfl, ?_⟩, rfl⟩
        unfold stopB
        dsimp only
        rw [decide_eq_decide]; omega
    rintro e w7 rfl
    cases hst : stopB acc x with
    | true =>
      refine r_yes rfl rfl ?_
      (repeat refine ze rfl ?_)
      refine ⟨⟨rfl, acc, hg2, fun post => ?_⟩, hkeep⟩
      rw [List.append_assoc]
      cases acc with
      | none => cases hst
      | some b => exact (hx2 post).trans (bestGo_stop wb b x post (of_decide_eq_true hst))
    | false =>
      refine r_no rfl rfl ?_
      have hgo : ∀ post, bestGo wb none (pre ++ [x] ++ post) = bestGo wb (if wb x = true then some x else acc) post := fun post => by
        rw [List.append_assoc]
        refine (hx2 post).trans (bestGo_step wb acc x post fun b hb => ?_)
        subst hb
        exact of_decide_eq_false hst
      (repeat first|refine zA ?_|refine zg ?_|refine zk ?_)
      refine o_load (v := .func (.func f) #[] ⟨caps⟩) rfl hg2.bw_ rfl rfl rfl rfl rfl ?_
      refine o_loadA (vs := pairC x) rfl (fun j v hv => by rw [Nat.zero_add]; exact hB8.cell hv) rfl rfl rfl rfl rfl rfl ?_
      refine o_callv (first := #[]) (cap := ⟨caps⟩) (hwant w7 x (fun b hb => hg2.kp.at_ b (hF b hb) (by simp))) rfl rfl rfl rfl ?_
      rintro v w8 ⟨rfl, kw8⟩
      have hg8 := hg2.kp0 kw8
      have hB88 := kw8.blk (by simp) hB8
      (repeat refine zn ?_)
      cases hwx : wb x with
      | false =>
        refine r_no rfl rfl ?_
        (repeat refine zk ?_)
        refine ⟨⟨acc, hg8, fun post => ?_⟩, hcap _ (kw8.mono (by simp))⟩
        rw [hgo, hwx]; rfl
      | true =>
        refine r_yes rfl rfl ?_
        have l87 := hg8.b7_.lt
        have l86 := hg8.b6_.lt
        have n86 : b8 ≠ b6 ∧ b8 ≠ b7 := by have := hg.kp.size; have q1 := hg.b6_.lt; have q2 := hg.b7_.lt; omega
        (repeat refine zg ?_)
        refine o_loadA (vs := pairC x) rfl (fun j v hv => by rw [Nat.zero_add]; exact hB88.cell hv) rfl rfl rfl rfl rfl rfl ?_
        refine o_storeA (cs := pairC x) rfl hg8.b6_ (by simp) rfl (by simp [Value.oneCell']) rfl rfl rfl rfl ?_
        intro w9 hu9
        have k9 : Kp [b6] w8 w9 := hu9.kp _ (.inl (by simp))
        have h69 : Blk w9 b6 (pairC x) 53 := hu9.blk
        have h79 := k9.blk (by simp; omega) hg8.b7_
        refine o_store (v := .bool true) (c := none) rfl h79 (by simp) rfl rfl rfl rfl rfl rfl ?_
        intro w10 hu10
        have k10 : Kp [b7] w9 w10 := hu10.kp _ (.inl (by simp))
        have k810 : Kp [b6, b7] w8 w10 := (k9.mono (by simp)).trans (k10.mono (by simp))
        (repeat refine zn ?_)
        refine ⟨⟨some x, ⟨k10.blk (by simp; omega) h69, hu10.blk, k810.blk (by simp; omega) hg8.bw_, k810.blk (by simp; omega) hg8.b4_, hg8.kp.since k810 (by simp; omega)⟩, fun post => ?_⟩, hcap _ ((kw8.mono (by simp)).trans k810)⟩
        rw [hgo, hwx]; rfl
  · rintro D W hD ⟨acc, hg, hq⟩ hsh
    have e1 := hq []
    rw [List.append_nil] at e1
    have e2 : bestGo wb none (racesN E R E.length) = acc := e1
    rw [e2]
    refine m_seq (m_of ?_)
    refine r_mix (fun w' => Kp [b4] W w') [(0, false), (1, false), (2, true), (3, false)] follows_mixed (by kernel_rfl) (by kernel_rfl) (by kernel_rfl) ((Sm.drew W).kp _) ?_
    have kd := (Sm.drew W).kp [b4]
    have k0 := (Sm.drew W).kp []
    have hgd := hg.kp0 k0
    have hshd : ({ W with drawn := W.drawn + 1 } : World).heap[D]? = some (.deferred (some [])) := hsh
    have hDne : D ≠ b4 ∧ D ≠ b6 ∧ D ≠ b7 := by omega
    generalize ({ W with drawn := W.drawn + 1 } : World) = wd at kd k0 hgd hshd ⊢
    refine x_loadA (vs := pairC (acc.getD (0, 0, 0))) rfl rfl (fun w' h' j v hv => by rw [Nat.zero_add]; exact (h'.blk (by simp; omega) hg.b6_).cell hv) rfl rfl rfl rfl rfl rfl ?_
    refine x_load (v := .bool acc.isSome) rfl rfl (fun w' h' => (h'.blk (by simp; omega) hg.b7_).cell rfl) rfl rfl rfl rfl ?_
    refine x_act rfl ?_
    refine o_storeA (cs := pairC (acc.getD (0, 0, 0))) rfl hgd.b4_ (by simp) rfl (by simp [Value.oneCell']) rfl rfl rfl rfl ?_
    intro w7 hu7
    have k7 : Kp [b4] wd w7 := hu7.kp _ (.inl (by simp))
    refine o_nil ⟨.inr (kd.trans k7), ?_⟩
    (repeat first|refine xo rfl rfl trivial ?_|refine xn ?_)
    have hB7 : Blk w7 b4 (pairC (acc.getD (0, 0, 0))) 53 := hu7.blk
    refine m_ret ?_
    refine ⟨(hu7.other D hDne.1).trans hshd, fun w8 hu8 => ?_⟩
    have hB8 := hu8.kept (fun e => hDne.1 e.symm) hB7
    have kw8 : Kp [] w w8 := (hgd.kp.since k7 (by simp; omega)).since (hu8.kp [D] (.inl (by simp))) (by simp; omega)
    exact ⟨[.agg ⟨pairC (acc.getD (0, 0, 0))⟩, .bool acc.isSome], ⟨⟨_, rfl, run_loadB hB8 rfl rfl rfl rfl⟩, ⟨_, rfl⟩, trivial⟩, rfl, kw8⟩
  · rintro D c pre post W hD hc hx' ⟨rfl, acc, hg, hq⟩ hsh
    have e2 : bestGo wb none (racesN E R E.length) = acc := by rw [hx']; exact hq post
    rw [e2]
    refine m_exit rfl ?_
    refine m_seq (m_of ?_)
    refine r_mix (fun w' => Kp [b4] W w') [(0, false), (1, false), (2, true), (3, false)] follows_mixed (by kernel_rfl) (by kernel_rfl) (by kernel_rfl) ((Sm.drew W).kp _) ?_
    have kd := (Sm.drew W).kp [b4]
    have k0 := (Sm.drew W).kp []
    have hgd := hg.kp0 k0
    have hshd : ({ W with drawn := W.drawn + 1 } : World).heap[D]? = some (.deferred (some [])) := hsh
    have hDne : D ≠ b4 ∧ D ≠ b6 ∧ D ≠ b7 := by omega
    generalize ({ W with drawn := W.drawn + 1 } : World) = wd at kd k0 hgd hshd ⊢
    refine x_loadA (vs := pairC (acc.getD (0, 0, 0))) rfl rfl (fun w' h' j v hv => by rw [Nat.zero_add]; exact (h'.blk (by simp; omega) hg.b6_).cell hv) rfl rfl rfl rfl rfl rfl ?_
    refine x_load (v := .bool acc.isSome) rfl rfl (fun w' h' => (h'.blk (by simp; omega) hg.b7_).cell rfl) rfl rfl rfl rfl ?_
    refine x_act rfl ?_
    refine o_storeA (cs := pairC (acc.getD (0, 0, 0))) rfl hgd.b4_ (by simp) rfl (by simp [Value.oneCell']) rfl rfl rfl rfl ?_
    intro w7 hu7
    have k7 : Kp [b4] wd w7 := hu7.kp _ (.inl (by simp))
    refine o_nil ⟨.inr (kd.trans k7), ?_⟩
    (repeat first|refine xo rfl rfl trivial ?_|refine xn ?_)
    have hB7 : Blk w7 b4 (pairC (acc.getD (0, 0, 0))) 53 := hu7.blk
    refine m_ret ?_
    refine ⟨(hu7.other D hDne.1).trans hshd, fun w8 hu8 => ?_⟩
    have hB8 := hu8.kept (fun e => hDne.1 e.symm) hB7
    have kw8 : Kp [] w w8 := (hgd.kp.since k7 (by simp; omega)).since (hu8.kp [D] (.inl (by simp))) (by simp; omega)
    exact ⟨[.agg ⟨pairC (acc.getD (0, 0, 0))⟩, .bool acc.isSome], ⟨⟨_, rfl, run_loadB hB8 rfl rfl rfl rfl⟩, ⟨_, rfl⟩, trivial⟩, rfl, kw8⟩
end
end Go.Vc
