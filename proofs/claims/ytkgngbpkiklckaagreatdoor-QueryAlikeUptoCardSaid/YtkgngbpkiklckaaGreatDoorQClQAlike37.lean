/- Query: what binds a name. -/
import Derived.Test.YtkgngbpkiklckaaGreatDoorQClQAlike36
namespace Go.Vc
open Go Go.Proofs
set_option maxRecDepth 10000
variable {g : MG} {W : World} {f : List UInt8 → Option Int} {s : Nat}
/-- one name put back -/
def resF (f : List UInt8 → Option Int) (name : List UInt8) (was : Int) (had : Bool) : List UInt8 → Option Int := fun k => if k = name then (if had then some was else none) else f k
theorem upT_put (f : List UInt8 → Option Int) (name : List UInt8) (x : Int) : upTx (fun k => (f k).map fun x => I x) name (some (I x)) = fun k => ((resF f name x true) k).map fun x => I x := by
  funext k
  unfold upTx resF
  split <;> rfl
theorem upT_del (f : List UInt8 → Option Int) (name : List UInt8) (x : Int) : upTx (fun k => ((resF f name x true) k).map fun x => I x) name none = fun k => ((resF f name x false) k).map fun x => I x := by
  funext k
  unfold upTx resF
  split
  · rfl
  · rename_i h; simp [h]
theorem MAt.put {w' : World} {F' : List UInt8 → Option Int} (h : MAt W g f s) (hg : g.Ok) (hu : MUpdT W g.mm (fun k => (F' k).map fun x => I x) w') : MAt w' g F' s := by
  have hk : Kp [g.mm] W w' := hu.kp [g.mm] (.inl (by simp))
  refine ⟨hk.blk (by simpa using hg.ne) h.hdr, hu.at_, h.ord.kp hk (fun b hb => ?_)⟩
  have := hg.op b hb
  simp only [MG.F, List.mem_cons, List.not_mem_nil, or_false, not_or] at this
  simpa using this.2
/-- the deferred function: the name put back -/
theorem bindD_ret {u : FrameMode} (h : MAt W g f s) (hg : g.Ok) {bw bm bt bh q : Nat} {cs : List Value} {name : List UInt8} {was : Int} {had : Bool} (hw : Blk W bw [I was] 3) (hm : Blk W bm [ptr g.p] 111) (ht : Blk W bt [ptr q] 87) (hh : Blk W bh [.bool had] 4)
    (hq : Blk W q cs 121) (hn : cs[3]? = some (S name)) (ho : ∀ b ∈ [bw, bm, bt, bh, q], b ≠ g.mm) :
    DRet Tryz.prog 187 [ptr bw, ptr bm, ptr bt, ptr bh] u W (fun u' w' => u' = u ∧ MAt w' g (resF f name was had) s ∧ Kp [g.mm] W w') := by
  have hH := h.hdr
  simp only [List.mem_cons, List.not_mem_nil, or_false, forall_eq_or_imp, forall_eq] at ho
  obtain ⟨o1, o2, o3, o4, o5⟩ := ho
  refine enterDf Tryz.call187 Tryz.func187 rfl rfl rfl rfl ?_
  refine r_seq ?_
  refine r_cut (α := Unit) [1, 2, 3] (fun _ => [ptr bm, ptr bt, ptr bh]) (fun _ w' => MAt w' g (resF f name was true) s ∧ Kp [g.mm] W w') ?_ ?_
  · refine r_lastL follows_mixed rfl (by kernel_rfl) (by kernel_rfl) ?_
    (repeat first|refine yo rfl rfl trivial ?_|refine q_load rfl (fun _ hs => (Sm.blk hs hm).cell rfl) rfl rfl rfl rfl ?_)
    (repeat refine q_load rfl (fun _ hs => (Sm.blk hs hH).cell rfl) rfl rfl rfl rfl ?_)
    (repeat first|refine yo rfl rfl trivial ?_|refine q_load rfl (fun _ hs => (Sm.blk hs ht).cell rfl) rfl rfl rfl rfl ?_)
    refine q_load (v := S name) rfl (fun _ hs => (Sm.blk hs hq).cell hn) rfl rfl rfl rfl ?_
    (repeat first|refine yn ?_|refine q_load rfl (fun _ hs => (Sm.blk hs hw).cell rfl) rfl rfl rfl rfl ?_)
    intro w1 hs
    have hM1 := h.kp0 (hs.kp [])
    refine o_mapSetT (v := I was) rfl rfl rfl hM1.map rfl rfl rfl rfl ?_
    intro w2 hu2
    rw [upT_put] at hu2
    exact o_nil ⟨(), rfl, hM1.put hg hu2, (hs.kp _).trans (hu2.kp _ (.inl (by simp)))⟩
  rintro _ e1 w1 ⟨hM1, k1⟩
  have hh1 := k1.blk (by simpa using o4) hh
  have hm1 := k1.blk (by simpa using o2) hm
  have ht1 := k1.blk (by simpa using o3) ht
  have hq1 := k1.blk (by simpa using o5) hq
  have hH1 := hM1.hdr
  (repeat first|refine zA ?_|refine zg ?_|refine zo rfl rfl trivial ?_|refine zn ?_|refine o_load rfl hh1 rfl rfl rfl rfl rfl ?_)
  refine r_cond rfl (fun hb => ?_) (fun hb => ?_)
  · have hb : had = false := by simpa using hb
    subst hb
    refine r_lastL follows_mixed rfl (by kernel_rfl) (by kernel_rfl) ?_
    (repeat first|refine yo rfl rfl trivial ?_|refine q_load rfl (fun _ hs => (Sm.blk hs hm1).cell rfl) rfl rfl rfl rfl ?_)
    (repeat refine q_load rfl (fun _ hs => (Sm.blk hs hH1).cell rfl) rfl rfl rfl rfl ?_)
    (repeat first|refine yo rfl rfl trivial ?_|refine q_load rfl (fun _ hs => (Sm.blk hs ht1).cell rfl) rfl rfl rfl rfl ?_)
    refine q_load (v := S name) rfl (fun _ hs => (Sm.blk hs hq1).cell hn) rfl rfl rfl rfl ?_
    (repeat refine yn ?_)
    intro w2 hs
    have hM2 := hM1.kp0 (hs.kp [])
    refine o_deleteT rfl rfl hM2.map rfl rfl rfl rfl ?_
    intro w3 hu3
    rw [upT_del] at hu3
    exact o_nil ⟨hM2.put hg hu3, (k1.trans (hs.kp _)).trans (hu3.kp _ (.inl (by simp)))⟩
  · have hb : had = true := by simpa using hb
    subst hb
    (repeat refine zk ?_)
    exact ⟨hM1, k1⟩
theorem resF_res {f' : List UInt8 → Option Int} {name : List UInt8} (h : ∀ k, k ≠ name → f' k = f k) : resF f' name ((f name).getD 0) (f name).isSome = f := by
  funext k
  unfold resF
  split
  · rename_i h; subst h
    cases f k <;> rfl
  · rename_i hk; exact h k hk
theorem sg_put {f' : List UInt8 → Option Int} {name : List UInt8} (h : ∀ k, k ≠ name → f' k = f k) (x : Int) : sg (resF f' name x true) = setV (sg f) name x := by
  funext k
  unfold sg resF setV
  by_cases hk : k = name
  · simp [hk]
  · simp [hk, h k hk]
/-- the events as the loop has them -/
theorem evs_get {Q : QW} {op : Int} {i : Nat} (hi : i < Q.n) : (evs Q op).drop i = (if op = 26 then ((Q.n - 1 - i : Nat) : Int) else (i : Int)) :: (evs Q op).drop (i + 1) := by
  have hl : (evs Q op).length = Q.n := by unfold evs; split <;> simp
  rw [List.drop_eq_getElem_cons (by omega)]
  congr 1
  unfold evs
  split <;> simp
theorem evs_len {Q : QW} {op : Int} : (evs Q op).length = Q.n := by unfold evs; split <;> simp
/-- an answer of a binding node -/
noncomputable def bindA (g : MG) (op : Int) (name : List UInt8) (a : Ans) (σ : List UInt8 → Int) : Int × Nat := bindL op (fun i => a (setV σ name i)) (evs (qwO g.E g.R) op) 0
set_option maxHeartbeats 25600000 in
theorem binds_ok (h : MAt W g f s) (hg : g.Ok) (hs : s ≤ g.fuel) {w0 : World} (hW : Kp g.F w0 W) {bm bt bk q k : Nat} {cs : List Value} {name : List UInt8} {vk : Value} {a : Ans} (hm : Blk w0 bm [ptr g.p] 111) (ht : Blk w0 bt [ptr q] 87) (hk : Blk w0 bk [vk] 201)
    (hq : Blk w0 q cs 121) (hn : cs[3]? = some (S name)) (hop : cs[0]? = some (I k)) (hk22 : 22 ≤ k ∧ k ≤ 26) (ho : ∀ b ∈ [bm, bt, bk, q], b ∉ g.F) (hA : AsksC g a w0 vk) :
    RetP Tryz.prog 186 [ptr bm, ptr bt, ptr bk] W (AskR g (bindA g k name a (sg f)) W f s) (AskE g (bindA g k name a (sg f)) W s) := by
  obtain ⟨fn, first, caps, rfl, hA⟩ := hA
  simp only [List.mem_cons, List.not_mem_nil, or_false, forall_eq_or_imp, forall_eq] at ho
  obtain ⟨o1, o2, o3, o4⟩ := ho
  have mmF : ∀ {b : Nat}, b ∉ g.F → b ≠ g.mm := fun hb e => hb (by rw [e]; simp [MG.F])
  have hF := hg.fu
  have hmW := hW.blk o1 hm
  have htW := hW.blk o2 ht
  have hqW := hW.blk o4 hq
  have hHW := h.hdr
  have hplt := hHW.lt
  have hmlt := h.map.lt
  have hnE := h.ord.small
  refine enterD Tryz.call186 Tryz.func186 rfl rfl rfl ?_
  refine t_seq (R := fun _ _ => False) (pan := fun _ _ => False) ?_ (fun _ _ _ _ h => h.elim) (fun _ _ _ _ h => h.elim)
  (repeat first|refine zg ?_|refine zo rfl rfl trivial ?_|refine zn ?_)
  -- what was there
  refine t_seq (R := fun _ _ => False) (pan := fun _ _ => False) ?_ (fun _ _ _ _ h => h.elim) (fun _ _ _ _ h => h.elim)
  refine r_cut (α := Nat × Nat) [0, 1, 2, 4, 5] (fun x => [ptr bm, ptr bt, ptr bk, ptr x.1, ptr x.2]) (fun x w' => Blk w' x.1 [I ((f name).getD 0)] 3 ∧ Blk w' x.2 [.bool (f name).isSome] 4 ∧ x.1 ≠ x.2 ∧ Kp [] W w' ∧ W.heap.size ≤ x.1 ∧ W.heap.size ≤ x.2) ?_ ?_
  · refine r_any (fun w' => Kp [] W w') 17 follows_mixed (by kernel_rfl) ?_
    have kk := (Sm.drew W).kp []
    generalize ({ W with drawn := W.drawn + 1 } : World) = wd at kk ⊢
    have zd := kk.size
    refine t_seg [0, 1, 2, 3, 4, 5, 6, 7, 8, 9, 10, 11, 12] 4 (by kernel_rfl) (by kernel_rfl) (by kernel_rfl) kk ?_
    try dsimp only [List.map_cons, List.map_nil]
    refine x_load rfl rfl (fun w' h' => (h'.blk (by simp) hmW).cell rfl) rfl rfl rfl rfl ?_
    (repeat refine xo rfl rfl trivial ?_)
    refine x_load rfl rfl (fun w' h' => (h'.blk (by simp) hHW).cell rfl) rfl rfl rfl rfl ?_
    refine x_load rfl rfl (fun w' h' => (h'.blk (by simp) htW).cell rfl) rfl rfl rfl rfl ?_
    (repeat refine xo rfl rfl trivial ?_)
    refine x_load (v := S name) rfl rfl (fun w' h' => (h'.blk (by simp) hqW).cell hn) rfl rfl rfl rfl ?_
    refine x_lookT2 (.tuple #[I ((f name).getD 0), .bool (f name).isSome]) rfl rfl rfl (fun w' h' => h.map.kp h' (by simp)) (by cases f name <;> rfl) rfl rfl rfl rfl rfl rfl ?_
    (repeat first|refine xo rfl rfl trivial ?_|refine xn ?_)
    refine t_two 13 14 (by kernel_rfl) rfl rfl ?_ ?_
    · refine o_alloc rfl rfl rfl rfl ?_
      intro x1 w1 hx1 hu1
      have k1 : Kp [] wd w1 := hu1.kp [] (.inr (by omega))
      refine o_nil ⟨.inr (kk.trans k1), ?_⟩
      refine t_one 14 (by kernel_rfl) rfl ?_
      refine o_alloc rfl rfl rfl rfl ?_
      intro x2 w2 hx2 hu2
      have l1 := hu1.lt
      have k2 : Kp [] w1 w2 := hu2.kp [] (.inr (by omega))
      refine o_nil ⟨.inr (kk.trans (k1.trans k2)), ?_⟩
      have hne : x1 ≠ x2 := by omega
      refine t_one 15 (by kernel_rfl) rfl ?_
      refine o_store (b := x1) (off := 0) (v := I ((f name).getD 0)) rfl (hu2.kept hne hu1.blk) (by decide) rfl rfl rfl rfl rfl rfl ?_
      intro w3 hu3
      have k3 : Kp [] wd w3 := (k1.trans k2).since (hu3.kp [x1] (.inl (by simp))) (by simp; omega)
      refine o_nil ⟨.inr (kk.trans k3), ?_⟩
      refine t_one 16 (by kernel_rfl) rfl ?_
      refine o_store (b := x2) (off := 0) (v := .bool (f name).isSome) rfl (hu3.kept hne.symm hu2.blk) (by decide) rfl rfl rfl rfl rfl rfl ?_
      intro w4 hu4
      have k4 : Kp [] wd w4 := k3.since (hu4.kp [x2] (.inl (by simp))) (by have := k1.size; simp; omega)
      refine o_nil ⟨.inl (by kernel_rfl), t_end (by kernel_rfl) ?_⟩
      exact ⟨(x1, x2), rfl, hu4.kept hne hu3.blk, hu4.blk, hne, kk.trans k4, by dsimp only; omega, by have := k1.size; dsimp only; omega⟩
    · refine o_alloc rfl rfl rfl rfl ?_
      intro x2 w1 hx2 hu1
      have k1 : Kp [] wd w1 := hu1.kp [] (.inr (by omega))
      refine o_nil ⟨.inr (kk.trans k1), ?_⟩
      refine t_one 13 (by kernel_rfl) rfl ?_
      refine o_alloc rfl rfl rfl rfl ?_
      intro x1 w2 hx1 hu2
      have l1 := hu1.lt
      have k2 : Kp [] w1 w2 := hu2.kp [] (.inr (by omega))
      refine o_nil ⟨.inr (kk.trans (k1.trans k2)), ?_⟩
      have hne : x1 ≠ x2 := by omega
      refine t_one 15 (by kernel_rfl) rfl ?_
      refine o_store (b := x1) (off := 0) (v := I ((f name).getD 0)) rfl hu2.blk (by decide) rfl rfl rfl rfl rfl rfl ?_
      intro w3 hu3
      have k3 : Kp [] wd w3 := (k1.trans k2).since (hu3.kp [x1] (.inl (by simp))) (by have := k1.size; simp; omega)
      refine o_nil ⟨.inr (kk.trans k3), ?_⟩
      refine t_one 16 (by kernel_rfl) rfl ?_
      refine o_store (b := x2) (off := 0) (v := .bool (f name).isSome) rfl (hu3.kept hne.symm (hu2.kept hne.symm hu1.blk)) (by decide) rfl rfl rfl rfl rfl rfl ?_
      intro w4 hu4
      have k4 : Kp [] wd w4 := k3.since (hu4.kp [x2] (.inl (by simp))) (by simp; omega)
      refine o_nil ⟨.inl (by kernel_rfl), t_end (by kernel_rfl) ?_⟩
      exact ⟨(x1, x2), rfl, hu4.kept hne hu3.blk, hu4.blk, hne, kk.trans k4, by have := k1.size; dsimp only; omega, by dsimp only; omega⟩
  rintro ⟨bw, bh⟩ e1 w1 ⟨hbw, hbh, hwh, k1, hgw, hgh⟩
  dsimp only at hbw hbh hwh hgw hgh ⊢
  have h1 := h.kp0 k1
  have hwF : bw ∉ g.F := by simp [MG.F]; omega
  have hhF : bh ∉ g.F := by simp [MG.F]; omega
  have hW1 := hW.trans (k1.mono (by simp))
  refine t_seqD ?_
  refine oq_run rfl rfl ?_
  refine oq_defer rfl rfl ?_
  refine oq_nil ?_
  -- the deferred function, from a world that has kept the boxes
  have rest : ∀ {u : FrameMode} {f' : List UInt8 → Option Int} {s' : Nat} {w' : World}, MAt w' g f' s' → Kp g.F w1 w' → DRet Tryz.prog 187 [ptr bw, ptr bm, ptr bt, ptr bh] u w' (fun u' w'' => u' = u ∧ MAt w'' g (resF f' name ((f name).getD 0) (f name).isSome) s' ∧ Kp [g.mm] w' w'') := by
    intro u f' s' w' hM kw
    refine bindD_ret hM hg (kw.blk hwF hbw) ((hW1.trans kw).blk o1 hm) ((hW1.trans kw).blk o2 ht) (kw.blk hhF hbh) ((hW1.trans kw).blk o4 hq) hn ?_
    simp only [List.mem_cons, List.not_mem_nil, or_false, forall_eq_or_imp, forall_eq]
    exact ⟨mmF hwF, mmF o1, mmF o2, mmF hhF, mmF o4⟩
  generalize hans : bindA g k name a (sg f) = ans
  refine t_of (K := fun _ _ => False) (R := fun e w' => e 3 = I ans.1 ∧ s + ans.2 ≤ g.fuel ∧ Kp g.F w1 w' ∧ ∃ f', (∀ k, k ≠ name → f' k = f k) ∧ MAt w' g f' (s + ans.2))
    (pan := fun v w' => g.fuel < s + ans.2 ∧ v = tiredV ∧ Kp g.F w1 w' ∧ ∃ f' s', MAt w' g f' s') ?_ (fun _ _ _ _ h => h.elim) (fun a' e w' hfit hR => ?_) (fun a' v w' hd hE => ?_)
  · generalize hQ : qwO g.E g.R = Q at hans
    have hQn : Q.n = g.E.length := by rw [← hQ]; rfl
    have hm1 := hW1.blk o1 hm
    have hH1 := h1.hdr
    have keepW : ∀ {w' : World}, Kp g.F w1 w' → Blk w' bm [ptr g.p] 111 ∧ Blk w' bt [ptr q] 87 ∧ Blk w' bk [.func (.func fn) first caps] 201 ∧ Blk w' q cs 121 := fun kw => ⟨(hW1.trans kw).blk o1 hm, (hW1.trans kw).blk o2 ht, (hW1.trans kw).blk o3 hk, (hW1.trans kw).blk o4 hq⟩
    (repeat first|refine zA ?_|refine zg ?_|refine zo rfl rfl trivial ?_|refine o_load rfl hm1 rfl rfl rfl rfl rfl ?_)
    (repeat refine o_load rfl hH1 rfl rfl rfl rfl rfl ?_)
    refine o_call (oLen_ret h1.ord.toOrB) rfl rfl rfl ?_
    rintro v w1' ⟨rfl, rfl⟩
    have hans0 : ans = ((bindL k (fun i => a (setV (sg f) name i)) ((evs Q k).drop 0) ((0 : Nat) : Int)).1, (s - s) + (bindL k (fun i => a (setV (sg f) name i)) ((evs Q k).drop 0) ((0 : Nat) : Int)).2) := by
      rw [← hans]; unfold bindA; rw [hQ]; simp
    (repeat first|refine zA ?_|refine zB ?_|refine zg ?_|refine zo rfl rfl trivial ?_|refine zn ?_|refine zb ?_)
    refine r_loop (α := Nat × Nat × Nat × (List UInt8 → Option Int)) [0, 1, 2, 6, 7, 29, 30] (fun x => [ptr bm, ptr bt, ptr bk, I g.E.length, I x.2.1, I g.E.length, I x.1])
      (fun x w' => x.1 ≤ g.E.length ∧ x.2.1 ≤ x.1 ∧ s ≤ x.2.2.1 ∧ x.2.2.1 ≤ g.fuel ∧ Kp g.F w1' w' ∧ (∀ k, k ≠ name → x.2.2.2 k = f k) ∧ MAt w' g x.2.2.2 x.2.2.1 ∧
        ans = ((bindL k (fun i => a (setV (sg f) name i)) ((evs Q k).drop x.1) (x.2.1 : Int)).1, (x.2.2.1 - s) + (bindL k (fun i => a (setV (sg f) name i)) ((evs Q k).drop x.1) (x.2.1 : Int)).2))
      (fun x => g.E.length - x.1) (0, 0, s, f) rfl ⟨Nat.zero_le _, Nat.le_refl _, Nat.le_refl _, hs, Kp.refl _ _, fun _ _ => rfl, h1, hans0⟩ ?_
    clear hans0
    rintro ⟨i, c, sc, f'⟩ e2 w2 ⟨hi, hc, hsc, hscf, k2, hf', hM2, hT⟩
    dsimp only at hi hc hsc hscf hf' hM2 hT ⊢
    (repeat first|refine zA ?_|refine zD ?_|refine zg ?_|refine zo rfl rfl trivial ?_|refine zn ?_)
    refine r_if rfl (fun hlt => ?_) (fun hlt => ?_)
    · have hi2 : i < g.E.length := by omega
      have hT' := hT
      rw [evs_get (by omega), hQn] at hT'
      obtain ⟨hm2, ht2, hk2, hq2⟩ := keepW k2
      (repeat first|refine zA ?_|refine zB ?_|refine zC ?_|refine zg ?_|refine zo rfl rfl trivial ?_|refine zn ?_|refine zb ?_|refine zk ?_|refine o_load rfl ht2 rfl rfl rfl rfl rfl ?_)
      refine o_load rfl hq2 hop rfl rfl rfl rfl ?_
      (repeat first|refine zo rfl rfl trivial ?_|refine zn ?_)
      refine r_cut (α := Unit) [0, 1, 2, 6, 7, 8, 29, 30] (fun _ => [ptr bm, ptr bt, ptr bk, I g.E.length, I c, I (if (k : Int) = 26 then ((g.E.length - 1 - i : Nat) : Int) else (i : Int)), I g.E.length, I i]) (fun _ w' => w' = w2) ?_ ?_
      · refine r_if rfl (fun h26 => ?_) (fun h26 => ?_)
        · rw [if_pos h26]
          (repeat first|refine zg ?_|refine zo rfl rfl (by first|exact trivial|(simp only[AllP];omega)) ?_|refine zn ?_)
          refine ⟨(), ?_, rfl⟩
          have e : (g.E.length : Int) - 1 - i = ((g.E.length - 1 - i : Nat) : Int) := by omega
          rw [← e]; rfl
        · rw [if_neg h26]
          (repeat refine zk ?_)
          exact ⟨(), rfl, rfl⟩
      rintro _ e3 w2' rfl
      generalize (if (k : Int) = 26 then ((g.E.length - 1 - i : Nat) : Int) else (i : Int)) = x at hT' ⊢
      refine r_seq ?_
      refine r_cut (α := Unit) [0, 1, 2, 6, 7, 8, 29, 30] (fun _ => [ptr bm, ptr bt, ptr bk, I g.E.length, I c, I x, I g.E.length, I i]) (fun _ w' => MAt w' g (resF f' name x true) sc ∧ Kp g.F w1' w') ?_ ?_
      · have hH2 := hM2.hdr
        refine r_lastL follows_mixed rfl (by kernel_rfl) (by kernel_rfl) ?_
        (repeat first|refine yo rfl rfl trivial ?_|refine q_load rfl (fun _ hs => (Sm.blk hs hm2).cell rfl) rfl rfl rfl rfl ?_)
        (repeat refine q_load rfl (fun _ hs => (Sm.blk hs hH2).cell rfl) rfl rfl rfl rfl ?_)
        (repeat first|refine yo rfl rfl trivial ?_|refine q_load rfl (fun _ hs => (Sm.blk hs ht2).cell rfl) rfl rfl rfl rfl ?_)
        refine q_load (v := S name) rfl (fun _ hs => (Sm.blk hs hq2).cell hn) rfl rfl rfl rfl ?_
        (repeat first|refine yo rfl rfl trivial ?_|refine yn ?_)
        intro w3 hs3
        have hM3 := hM2.kp0 (hs3.kp [])
        refine o_mapSetT (v := I x) rfl rfl rfl hM3.map rfl rfl rfl rfl ?_
        intro w4 hu4
        rw [upT_put] at hu4
        exact o_nil ⟨(), rfl, hM3.put hg hu4, (k2.trans (hs3.kp _)).trans (hu4.kp _ (.inl (by simp [MG.F])))⟩
      rintro _ e4 w4 ⟨hM4, k4⟩
      have hsg := sg_put hf' x
      obtain ⟨hm4, ht4, hk4, hq4⟩ := keepW k4
      have hcall := hA w4 (resF f' name x true) sc (hW1.trans k4) hM4 hscf
      rw [hsg] at hcall
      generalize hV : a (setV (sg f) name x) = V at hcall hT'
      have hT2 : ans = (if (k : Int) = 23 ∧ V.1 ≠ 1 then (0, (sc - s) + V.2) else if (k : Int) = 22 ∧ V.1 = 1 then (1, (sc - s) + V.2) else if ((k : Int) = 25 ∨ (k : Int) = 26) ∧ V.1 = 1 then (x, (sc - s) + V.2)
          else ((bindL k (fun i => a (setV (sg f) name i)) ((evs Q k).drop (i + 1)) (c + trI (decide (V.1 = 1)))).1, (sc - s) + (V.2 + (bindL k (fun i => a (setV (sg f) name i)) ((evs Q k).drop (i + 1)) (c + trI (decide (V.1 = 1)))).2))) := by
        rw [hT', bindL, hV]
        split
        · rfl
        · split
          · rfl
          · split <;> rfl
      have hge : (sc - s) + V.2 ≤ ans.2 := by
        rw [hT2]
        split
        · exact Nat.le_refl _
        · split
          · exact Nat.le_refl _
          · split
            · exact Nat.le_refl _
            · show _ ≤ (sc - s) + (V.2 + _); omega
      clear hT hT'
      (repeat first|refine zA ?_|refine zg ?_|refine o_load rfl hk4 rfl rfl rfl rfl rfl ?_)
      refine o_callvP (first := first) (cap := caps) hcall rfl (by simp) rfl rfl (fun v w' hE => ?_) ?_
      · obtain ⟨j1, j2, j3, j4⟩ := hE
        exact ⟨by omega, j2, k4.trans j3, j4⟩
      rintro v w5 ⟨rfl, j1, hM5, j3⟩
      have k5 := k4.trans j3
      obtain ⟨hm5, ht5, hk5, hq5⟩ := keepW k5
      (repeat first|refine zA ?_|refine zg ?_|refine zo rfl rfl trivial ?_|refine zn ?_|refine zb ?_)
      have done : ∀ {z : Int} {e : Env}, ans = (z, (sc - s) + V.2) → e 3 = I z → e 3 = I ans.1 ∧ s + ans.2 ≤ g.fuel ∧ Kp g.F w1' w5 ∧ ∃ f', (∀ k, k ≠ name → f' k = f k) ∧ MAt w5 g f' (s + ans.2) := by
        intro z e h1 h2
        have h3 : s + ans.2 = sc + V.2 := by rw [h1]; show s + ((sc - s) + V.2) = _; omega
        refine ⟨by rw [h1]; exact h2, by omega, k5, resF f' name x true, fun k hk => ?_, by rw [h3]; exact hM5⟩
        unfold resF; rw [if_neg hk]; exact hf' k hk
      -- all, and it does not hold
      refine o_bool [0, 1, 2, 6, 7, 8, 9, 29, 30] [ptr bm, ptr bt, ptr bk, I g.E.length, I c, I x, .bool (decide (V.1 = 1)), I g.E.length, I i] 56 (decide ((k : Int) = 23) && !decide (V.1 = 1)) (fun w' => w' = w5) ?_ ?_
      · (repeat first|refine zo rfl rfl trivial ?_|refine o_load rfl ht5 rfl rfl rfl rfl rfl ?_)
        refine o_load rfl hq5 hop rfl rfl rfl rfl ?_
        (repeat refine zo rfl rfl trivial ?_)
        refine o_split _ _ rfl rfl rfl (fun hb => ?_) (fun hb => ?_)
        · (repeat first|refine zo rfl rfl trivial ?_|refine zn ?_)
          exact ⟨rfl, ⟨_, rfl, by rw [hb]; rfl⟩, rfl⟩
        · (repeat first|refine zo rfl rfl trivial ?_|refine zn ?_)
          exact ⟨rfl, ⟨_, rfl, by rw [hb]; rfl⟩, rfl⟩
      rintro e6 w6 rfl
      refine r_cond rfl (fun hb => ?_) (fun hb => ?_)
      · have hb : (k : Int) = 23 ∧ V.1 ≠ 1 := by simpa using hb
        rw [if_pos hb] at hT2
        (repeat first|refine zA ?_|refine zg ?_|refine zo rfl rfl trivial ?_|refine zn ?_|refine zr ?_)
        exact done hT2 rfl
      have hb1 : ¬ ((k : Int) = 23 ∧ V.1 ≠ 1) := by
        rintro ⟨h1, h2⟩
        rw [decide_eq_true h1, decide_eq_false h2] at hb; cases hb
      rw [if_neg hb1] at hT2
      -- any, and it holds
      refine r_seq ?_
      refine r_bool [0, 1, 2, 6, 7, 8, 9, 29, 30] [ptr bm, ptr bt, ptr bk, I g.E.length, I c, I x, .bool (decide (V.1 = 1)), I g.E.length, I i] 67 (decide ((k : Int) = 22) && decide (V.1 = 1)) (fun w' => w' = w6) ?_ ?_
      · (repeat first|refine zg ?_|refine zo rfl rfl trivial ?_|refine o_load rfl ht5 rfl rfl rfl rfl rfl ?_)
        refine o_load rfl hq5 hop rfl rfl rfl rfl ?_
        (repeat refine zo rfl rfl trivial ?_)
        refine o_split _ _ rfl rfl rfl (fun hb => ?_) (fun hb => ?_)
        · (repeat first|refine zo rfl rfl trivial ?_|refine zn ?_)
          exact ⟨rfl, ⟨_, rfl, by rw [hb]; rfl⟩, rfl⟩
        · (repeat first|refine zo rfl rfl trivial ?_|refine zn ?_)
          exact ⟨rfl, ⟨_, rfl, by rw [hb]; rfl⟩, rfl⟩
      rintro e7 w7 rfl
      refine r_cond rfl (fun hb => ?_) (fun hb => ?_)
      · have hb : (k : Int) = 22 ∧ V.1 = 1 := by simpa using hb
        rw [if_pos hb] at hT2
        (repeat first|refine zA ?_|refine zg ?_|refine zo rfl rfl trivial ?_|refine zn ?_|refine zr ?_)
        exact done hT2 rfl
      have hb2 : ¬ ((k : Int) = 22 ∧ V.1 = 1) := by
        rintro ⟨h1, h2⟩
        rw [decide_eq_true h1, decide_eq_true h2] at hb; cases hb
      rw [if_neg hb2] at hT2
      -- least or most, and it holds
      refine r_seq ?_
      refine r_bool [0, 1, 2, 6, 7, 8, 9, 29, 30] [ptr bm, ptr bt, ptr bk, I g.E.length, I c, I x, .bool (decide (V.1 = 1)), I g.E.length, I i] 77 ((decide ((k : Int) = 25) || decide ((k : Int) = 26)) && decide (V.1 = 1)) (fun w' => w' = w7) ?_ ?_
      · (repeat first|refine zg ?_|refine zo rfl rfl trivial ?_|refine o_load rfl ht5 rfl rfl rfl rfl rfl ?_)
        refine o_load rfl hq5 hop rfl rfl rfl rfl ?_
        (repeat refine zo rfl rfl trivial ?_)
        refine o_split _ _ rfl rfl rfl (fun hb => ?_) (fun hb => ?_)
        · (repeat first|refine zo rfl rfl trivial ?_|refine zn ?_|refine zT rfl rfl rfl ?_)
          exact ⟨rfl, ⟨_, rfl, by rw [hb]; rfl⟩, rfl⟩
        · (repeat first|refine zo rfl rfl trivial ?_|refine o_load rfl ht5 rfl rfl rfl rfl rfl ?_)
          refine o_load rfl hq5 hop rfl rfl rfl rfl ?_
          (repeat refine zo rfl rfl trivial ?_)
          refine o_split _ _ rfl rfl rfl (fun hb2 => ?_) (fun hb2 => ?_)
          · (repeat first|refine zo rfl rfl trivial ?_|refine zn ?_)
            exact ⟨rfl, ⟨_, rfl, by rw [hb, hb2]; rfl⟩, rfl⟩
          · (repeat first|refine zo rfl rfl trivial ?_|refine zn ?_)
            exact ⟨rfl, ⟨_, rfl, by rw [hb, hb2]; rfl⟩, rfl⟩
      rintro e8 w8 rfl
      refine r_cond rfl (fun hb => ?_) (fun hb => ?_)
      · have hb : ((k : Int) = 25 ∨ (k : Int) = 26) ∧ V.1 = 1 := by simpa using hb
        rw [if_pos hb] at hT2
        (repeat first|refine zA ?_|refine zg ?_|refine zo rfl rfl trivial ?_|refine zn ?_|refine zr ?_)
        exact done hT2 rfl
      have hb3 : ¬ (((k : Int) = 25 ∨ (k : Int) = 26) ∧ V.1 = 1) := by
        rintro ⟨h1, h2⟩
        rw [decide_eq_true h2, Bool.and_true, Bool.or_eq_false_iff, decide_eq_false_iff_not, decide_eq_false_iff_not] at hb
        rcases h1 with h1 | h1
        · exact hb.1 h1
        · exact hb.2 h1
      rw [if_neg hb3] at hT2
      have next : ∀ c' : Nat, (c' : Int) = c + trI (decide (V.1 = 1)) → ans = ((bindL k (fun i => a (setV (sg f) name i)) ((evs Q k).drop (i + 1)) (c' : Int)).1, (sc + V.2 - s) + (bindL k (fun i => a (setV (sg f) name i)) ((evs Q k).drop (i + 1)) (c' : Int)).2) := by
        intro c' hc'
        rw [hT2, hc']
        congr 1; omega
      have hf2 : ∀ k, k ≠ name → resF f' name x true k = f k := fun k hk => by unfold resF; rw [if_neg hk]; exact hf' k hk
      (repeat first|refine zA ?_|refine zg ?_|refine zo rfl rfl trivial ?_|refine zn ?_)
      refine r_cond rfl (fun hb => ?_) (fun hb => ?_)
      · (repeat first|refine zg ?_|refine zo rfl rfl (by first|exact trivial|(simp only[AllP];omega)) ?_|refine zn ?_)
        exact ⟨(i + 1, c + 1, sc + V.2, resF f' name x true), rfl, ⟨by dsimp only; omega, by dsimp only; omega, by dsimp only; omega, j1, k5, hf2, hM5, next (c + 1) (by rw [hb]; rfl)⟩, by dsimp only; omega⟩
      · (repeat first|refine zg ?_|refine zo rfl rfl (by first|exact trivial|(simp only[AllP];omega)) ?_|refine zn ?_|refine zk ?_)
        exact ⟨(i + 1, c, sc + V.2, resF f' name x true), rfl, ⟨by dsimp only; omega, by dsimp only; omega, by dsimp only; omega, j1, k5, hf2, hM5, next c (by rw [hb]; show (c : Int) = c + 0; omega)⟩, by dsimp only; omega⟩
    · have hi3 : i = g.E.length := by omega
      subst hi3
      rw [List.drop_eq_nil_of_le (by rw [evs_len]; omega)] at hT
      have hT : ans = (if (k : Int) = 23 then 1 else if (k : Int) = 25 ∨ (k : Int) = 26 then -1 else (c : Int), sc - s) := hT
      obtain ⟨hm2, ht2, hk2, hq2⟩ := keepW k2
      have hst : s + ans.2 = sc := by rw [hT]; show s + (sc - s) = sc; omega
      have done : ∀ {z : Int} {e : Env}, ans.1 = z → e 3 = I z → e 3 = I ans.1 ∧ s + ans.2 ≤ g.fuel ∧ Kp g.F w1' w2 ∧ ∃ f', (∀ k, k ≠ name → f' k = f k) ∧ MAt w2 g f' (s + ans.2) := fun h1 h2 =>
        ⟨by rw [h1]; exact h2, by omega, k2, f', hf', by rw [hst]; exact hM2⟩
      (repeat first|refine zA ?_|refine zB ?_|refine zg ?_|refine zo rfl rfl trivial ?_|refine ze rfl ?_|refine o_load rfl ht2 rfl rfl rfl rfl rfl ?_)
      refine o_load rfl hq2 hop rfl rfl rfl rfl ?_
      (repeat first|refine zA ?_|refine zg ?_|refine zo rfl rfl trivial ?_|refine zn ?_|refine zb ?_)
      refine r_if rfl (fun h23 => ?_) (fun h23 => ?_)
      · (repeat first|refine zA ?_|refine zg ?_|refine zo rfl rfl trivial ?_|refine zn ?_|refine zr ?_)
        exact done (by rw [hT]; exact if_pos h23) rfl
      (repeat first|refine zA ?_|refine zB ?_|refine zg ?_|refine zo rfl rfl trivial ?_|refine zn ?_)
      refine r_bool [7] [I c] 108 (decide ((k : Int) = 25 ∨ (k : Int) = 26)) (fun w' => w' = w2) ?_ ?_
      · refine r_if rfl (fun h25 => ?_) (fun h25 => ?_)
        · (repeat refine zk ?_)
          exact ⟨rfl, ⟨_, rfl, by simp [h25]⟩, rfl⟩
        · (repeat first|refine zg ?_|refine zo rfl rfl trivial ?_|refine zn ?_)
          exact ⟨rfl, ⟨_, rfl, by rw [decide_eq_decide]; omega⟩, rfl⟩
      rintro e9 w9 rfl
      refine r_cond rfl (fun hb => ?_) (fun hb => ?_)
      · have hb := of_decide_eq_true hb
        (repeat first|refine zA ?_|refine zg ?_|refine zo rfl rfl trivial ?_|refine zn ?_|refine zr ?_)
        exact done (by rw [hT]; show (if (k : Int) = 23 then 1 else _) = _; rw [if_neg h23, if_pos hb]) rfl
      · have hb := of_decide_eq_false hb
        (repeat first|refine zA ?_|refine zg ?_|refine zo rfl rfl trivial ?_|refine zn ?_|refine zr ?_|refine zk ?_)
        exact done (by rw [hT]; show (if (k : Int) = 23 then 1 else _) = _; rw [if_neg h23, if_neg hb]) rfl
  · obtain ⟨h3, g1, g2, f', g3, g4⟩ := hR
    refine body_ret hfit (goes_one (cap := [ptr bw, ptr bm, ptr bt, ptr bh]) (by intro h; cases h) ((rest g4 g2).mono ?_))
    rintro u' w'' ⟨rfl, j1, j2⟩
    rw [resF_res g3] at j1
    exact goes_ret rfl hfit (us := [I ans.1]) ⟨⟨none, by rw [h3]; rfl⟩, trivial⟩ ⟨rfl, g1, j1, ((k1.mono (by simp)).trans g2).trans (j2.mono (by simp [MG.F]))⟩
  · obtain ⟨g1, rfl, g2, f', s', g4⟩ := hE
    refine body_pan hd (goes_one (cap := [ptr bw, ptr bm, ptr bt, ptr bh]) (by intro h; cases h) ((rest g4 g2).mono ?_))
    rintro u' w'' ⟨rfl, j1, j2⟩
    exact goes_pan ⟨g1, rfl, ((k1.mono (by simp)).trans g2).trans (j2.mono (by simp [MG.F])), _, _, j1⟩
end Go.Vc
