/- NamesPlays: walk, gone through. -/
import Derived.Test.YtghdpibdidfpbaaDoorQClNPlays30
namespace Go.Vc
open Go Go.Proofs
set_option maxRecDepth 10000
variable {w w0 : World} {g : DG}
theorem run_loadC {P : Program} {t : TypeId} {d : TypeDesc} {a : Addr} {v : Value} (hu : P.underlying t = some d) (ha : aggD d = false) (hc : w.cell? a = some v) : (loadVar t a).run P w = .ok v w := by
  simp [loadVar, isAgg_run hu ha, hc]
set_option maxHeartbeats 6400000 in
theorem walk_ret (h : DS w0 w g) (hk0 : Kp [] w0 w) (heq : g.eqs) {n : Nat} (hn : n < 2) {leave : Int} (hlv : -9223372036854775808 ≤ leave ∧ leave ≤ 9223372036854775807) :
    Ret Tryd.prog 17 [ptr g.W, I n, I leave] w (fun v w' => v = .bool true ∧ Kp [] w0 w' ∧ ∃ f' o', DS w0 w' { g with f := f', o := o' } ∧ (o' 0 = o' 2 ∧ o' 1 = o' 3)) := by
  have hsz := h.size
  have hTo := h.to hn
  have hTr := h.tr hn
  have hge := heq.at_ hn
  have hfew := hTo.few
  refine enterMC Tryd.call17 Tryd.func17 rfl rfl rfl rfl ?_
  refine m_seq (m_of ?_)
  (repeat refine zg ?_)
  refine o_box rfl rfl rfl ?_
  intro b5 w1 hb5 hu1
  refine o_alloc rfl rfl rfl rfl ?_
  intro b6 w2 hb6 hu2
  have s1 := hu1.size; have t1 := hu1.lt
  have s2 := hu2.size; have t2 := hu2.lt
  have k02 : Kp [] w w2 := (hu1.kp [] (.inr (by omega))).trans (hu2.kp [] (.inr (by omega)))
  have h2 := h.kp0 k02
  (repeat refine zn ?_)
  refine m_seq (m_of ?_)
  (repeat first|refine zg ?_|refine zo rfl rfl (by first|exact trivial|(simp only[AllP];omega)) ?_)
  refine o_loadc (v := g.v (2 + n)) rfl (by rw [show 0 + (0 + 2) + (n : Int).toNat = 2 + n by omega]; exact h2.ref_cell hn) rfl rfl rfl rfl ?_
  obtain ⟨pr, hpr⟩ := hTr.ptr
  rw [hpr]
  refine o_call (namesR_ret (hpr ▸ h2.tr hn)) rfl rfl rfl ?_
  rintro v w3 ⟨adN, capN, rfl, hnewN⟩
  refine o_alloc rfl rfl rfl rfl ?_
  intro b7 w4 hb7 hu4
  have k23 := hnewN.kp
  have s3 := k23.size
  have s4 := hu4.size; have t4 := hu4.lt
  refine o_store rfl hu4.blk (by decide) rfl rfl rfl rfl rfl rfl ?_
  intro w5 hu5
  have s5 := hu5.size
  have k45 : Kp [b7] w4 w5 := hu5.kp [b7] (.inl (by simp))
  have k25 : Kp [] w2 w5 := (k23.trans (hu4.kp [] (.inr (by omega)))).since k45 (by simp; omega)
  have k05 := k02.trans k25
  have h5 := h.kp0 k05
  (repeat refine zn ?_)
  refine m_seq (m_of ?_)
  (repeat first|refine zg ?_|refine zo rfl rfl (by first|exact trivial|(simp only[AllP];omega)) ?_)
  refine o_loadc (v := g.v n) rfl (by rw [show 0 + 0 + (n : Int).toNat = n by omega]; exact h5.own_cell hn) rfl rfl rfl rfl ?_
  obtain ⟨po, hpo⟩ := hTo.ptr
  rw [hpo]
  refine o_call (allO_ret (hpo ▸ h5.to hn)) rfl rfl rfl ?_
  rintro v w6 ⟨Fp, ⟨ff, lb, rfl, hI⟩, k56, hFp⟩
  have s6 := k56.size
  have h6 := h5.kp0 k56
  have k06 := k05.trans k56
  (repeat first|refine zo rfl rfl trivial ?_|refine zn ?_)
  refine m_seq (m_of ?_)
  (repeat first|refine zA ?_|refine zg ?_|refine zo rfl rfl trivial ?_|refine zn ?_|refine zk ?_|refine zf rfl ?_)
  refine m_seq (m_of ?_)
  (repeat first|refine zg ?_|refine zo rfl rfl (by first|exact trivial|(simp only[AllP];omega)) ?_)
  refine o_loadc (v := g.v n) rfl (by rw [show 0 + 0 + (n : Int).toNat = n by omega]; exact h6.own_cell hn) rfl rfl rfl rfl ?_
  rw [hpo]
  refine o_call (hpo ▸ addO_ret h6 hn [122, 122, 119, 97, 108, 107] (by decide)) rfl rfl rfl ?_
  rintro v w7 ⟨rfl, k67, fp1, h7, hn7⟩
  have s7 := k67.size
  generalize hg1 : ({ g with f := setN g.f n fp1, o := setN g.o n (addLo (g.o n) [122, 122, 119, 97, 108, 107]) } : DG) = g1 at h7
  have e1W : g1.W = g.W := by rw [← hg1]
  have e1v : g1.v = g.v := by rw [← hg1]
  have e1f : g1.f (2 + n) = g.f (2 + n) := by rw [← hg1]; exact setN_ne (by omega)
  have e1o : g1.o (2 + n) = g.o (2 + n) := by rw [← hg1]; exact setN_ne (by omega)
  (repeat refine zn ?_)
  refine m_seq (m_of ?_)
  (repeat first|refine zg ?_|refine zo rfl rfl (by first|exact trivial|(simp only[AllP];omega)) ?_)
  refine o_loadc (v := g.v (2 + n)) rfl (by rw [show 0 + (0 + 2) + (n : Int).toNat = 2 + n by omega, ← e1W, ← e1v]; exact h7.ref_cell hn) rfl rfl rfl rfl ?_
  rw [hpr]
  refine o_call (show Ret Tryd.prog _ [.pointer pr, S [122, 122, 119, 97, 108, 107]] w7 _ from hpr ▸ e1v ▸ addR_ret h7 hn [122, 122, 119, 97, 108, 107] (by decide)) rfl rfl rfl ?_
  rintro v w8 ⟨rfl, k78, fp2, h8, hn8⟩
  have s8 := k78.size
  rw [e1f] at k78 hn8
  have hh8 : ∃ f' o', DS w0 w8 { g with f := f', o := o' } ∧ (o' 0 = o' 2 ∧ o' 1 = o' 3) ∧ ∀ i b, b ∈ ({ g with f := f', o := o' } : DG).F i → b < w.heap.size ∨ w6.heap.size ≤ b := by
    refine ⟨setN g1.f (2 + n) fp2, setN g1.o (2 + n) (addLo (g1.o (2 + n)) [122, 122, 119, 97, 108, 107]), ?_, ?_, ?_⟩
    · rw [← hg1] at h8 ⊢; exact h8
    · rw [e1o, ← hge, ← hg1]
      exact eqs_set heq hn
    · intro i b hb
      have lowT : ∀ j b, b ∈ g.f j → j < 4 → b < w.heap.size := fun j b hb hj => h.lt (.t j) b (by rw [DG.Ft hj]; exact hb)
      cases i with
      | t j =>
        by_cases hj : j < 4
        · rw [DG.Ft hj] at hb
          have hb : b ∈ setN g1.f (2 + n) fp2 j := hb
          by_cases c : j = 2 + n
          · subst c
            rw [setN_same] at hb
            rcases hn8 b hb with q | q
            · exact .inl (lowT _ b q hj)
            · exact .inr (by omega)
          · rw [setN_ne c, ← hg1] at hb
            have hb : b ∈ setN g.f n fp1 j := hb
            by_cases c2 : j = n
            · subst c2
              rw [setN_same] at hb
              rcases hn7 b hb with q | q
              · exact .inl (lowT _ b q hj)
              · exact .inr q
            · rw [setN_ne c2] at hb
              exact .inl (lowT _ b hb hj)
        · simp [DG.F, hj] at hb
      | d => exact .inl (h.lt .d b hb)
      | kr => exact .inl (h.lt .kr b hb)
      | wr => exact .inl (h.lt .wr b hb)
      | ek j => exact .inl (h.lt (.ek j) b hb)
      | ew j => exact .inl (h.lt (.ew j) b hb)
  obtain ⟨f', o', h8', heq8, hfar⟩ := hh8
  have lowf : ∀ k, k < 4 → ∀ b, b ∈ g.f k → w0.heap.size ≤ b ∧ b < w.heap.size := fun k hk b hb => ⟨h.low (.t k) b (by rw [DG.Ft hk]; exact hb), h.lt (.t k) b (by rw [DG.Ft hk]; exact hb)⟩
  have k68 : Kp (g.f n ++ g.f (2 + n)) w6 w8 := (k67.mono (fun b hb => by simp [hb])).trans (k78.mono (fun b hb => by simp [hb]))
  have old : ∀ b, b ∈ g.f n ++ g.f (2 + n) → w0.heap.size ≤ b ∧ b < w.heap.size := fun b hb => by
    rcases List.mem_append.1 hb with hb | hb
    · exact lowf n (by omega) b hb
    · exact lowf (2 + n) (by omega) b hb
  have k08 : Kp [] w0 w8 := (hk0.trans k06).since k68 (fun b hb => (old b hb).1)
  (repeat refine zn ?_)
  refine m_seq (m_of ?_)
  (repeat refine zg ?_)
  refine o_alloc rfl rfl rfl rfl ?_
  intro b9 w9 hb9 hu9
  have s9 := hu9.size; have t9 := hu9.lt
  refine o_store rfl hu9.blk (by decide) rfl rfl rfl rfl rfl rfl ?_
  intro w10 hu10
  have s10 := hu10.size
  have k89 : Kp [] w8 w10 := (hu9.kp [] (.inr (by omega))).since (hu10.kp [b9] (.inl (by simp))) (by simp; omega)
  have k010 := k08.trans k89
  have h10 := h8'.kp0 k89
  have n5 : Blk w10 b5 [I leave] 3 := k89.blk (by simp) (k68.blk (fun hb => by have := (old b5 hb).2; omega) ((k25.trans k56).blk (by simp) (hu2.kept (by omega) hu1.blk)))
  have n6 : Blk w10 b6 [.bool false] 4 := k89.blk (by simp) (k68.blk (fun hb => by have := (old b6 hb).2; omega) ((k25.trans k56).blk (by simp) hu2.blk))
  have n7 : Blk w10 b7 [.slice adN (lo (g.o (2 + n))).length capN] 22 := k89.blk (by simp) (k68.blk (fun hb => by have := (old b7 hb).2; omega) (k56.blk (by simp) hu5.blk))
  have hN10 : OwnS w10 9 1 adN (lo (g.o (2 + n))).length capN ((lo (g.o (2 + n))).map S) :=
    ((((hnewN.own.kp (hu4.kp [] (.inr (by omega))) (by simp)).kp k45 (fun b hb => by have := hnewN.own.lt b hb; simp; omega)).kp k56 (by simp)).kp k68 (fun b hb hb2 => by have := hnewN.new b hb; have := (old b hb2).2; omega)).kp k89 (by simp)
  have hI10 : Iter Tryd.prog ff lb Fp encP (nums (lo (g.o n))) w10 := (hI.kp k68.size (fun b hb => k68.at_ b (hI.1 b hb) (fun hb2 => by have := hFp b hb; have := (old b hb2).2; omega))).kp k89.size (fun b hb => k89.at_ b (by have := hI.1 b hb; omega) (by simp))
  rw [← hge] at n7 hN10
  generalize hL : lo (g.o n) = L at n7 hN10 hI10 hfew
  have gl : ∀ i b, b ∈ ({ g with f := f', o := o' } : DG).F i → b < w8.heap.size := fun i b hb => h8'.lt i b hb
  have e0 : WkI w0 w10 Fp b5 b6 b7 b9 leave L adN capN { g with f := f', o := o' } 0 w10 := by
    refine ⟨n5, n6, n7, hu10.blk, hN10, h10, k010, fun _ _ => rfl, Nat.le_refl _, fun i b hb => by have := gl i b hb; omega, fun b hb => ⟨by have := hI10.1 b hb; omega, by have := hI.1 b hb; omega⟩, ⟨by omega, by omega⟩, by omega, fun hb => by have := hnewN.own.lt b9 hb; omega, fun i hb => by have := gl i b9 hb; omega⟩
  generalize hG : ({ g with f := f', o := o' } : DG) = G at e0
  (repeat refine zn ?_)
  refine m_seqC (fun ds e W => ∃ D k, ds = [D] ∧ List.map e [5, 6, 7, 8, 9] = [ptr b5, ptr b6, ptr b7, .func (.func ff) #[] ⟨lb⟩, ptr b9] ∧ WkI w0 w10 Fp b5 b6 b7 b9 leave L adN capN G k W ∧ W.heap[D]? = some (.deferred (some [])) ∧ D = w10.heap.size ∧ ((leave ≤ 0 ∧ k = L.length) ∨ (0 < leave ∧ (k : Int) = min leave L.length))) ?_ ?_
  · refine m_seq (m_of ?_)
    (repeat first|refine zg ?_|refine zo rfl rfl trivial ?_|refine zn ?_)
    refine m_block ?_
    refine m_range hI10 [0] (fun pre W => WkI w0 w10 Fp b5 b6 b7 b9 leave L adN capN G pre.length W ∧ (leave ≤ 0 ∨ (pre.length : Int) < leave)) (fun c pre W => c = .exit 0 ∧ WkI w0 w10 Fp b5 b6 b7 b9 leave L adN capN G pre.length W ∧ (pre.length : Int) = leave ∧ 0 < leave ∧ pre.length ≤ L.length) rfl rfl (fun _ => rfl) ?_ ?_ ?_ ?_ ?_ ?_
    · rintro pre W1 W2 ⟨hg, hc⟩ hnc
      exact ⟨hg.nc hnc (Nat.le_refl _), hc⟩
    · rintro c pre W1 W2 ⟨hc, hg, hq⟩ hnc
      exact ⟨hc, hg.nc hnc (Nat.le_refl _), hq⟩
    · exact ⟨e0, by by_cases c : leave ≤ 0
                    · exact .inl c
                    · exact .inr (by simp; omega)⟩
    · intro D ll r pre x post W hx' hD hll
      (repeat first|refine zA ?_|refine zg ?_|refine zo rfl rfl trivial ?_|refine zn ?_)
      refine ⟨rfl, ?_⟩
      rintro W2 ⟨hg, hlv2⟩ hkeep
      obtain ⟨xn, xt⟩ := x
      obtain ⟨hx1, hx2⟩ := nums_split hx'
      dsimp only at hx1 hx2
      subst hx1
      have hpl : pre.length + 1 + post.length = L.length := by rw [← nums_length (l := L), hx']; simp; omega
      obtain ⟨bN, off, rfl, hcell⟩ := hg.read (W' := W2) hx2
      (repeat first|refine zA ?_|refine zB ?_|refine zg ?_|refine zb ?_)
      refine o_load rfl hg.n9 rfl rfl rfl rfl rfl ?_
      refine o_load rfl hg.n7 rfl rfl rfl rfl rfl ?_
      (repeat refine zo rfl rfl trivial ?_)
      refine o_is false _ _ rfl rfl rfl (by simp only [decide_eq_false_iff_not]; omega) ?_
      (repeat refine zo rfl rfl trivial ?_)
      refine o_load rfl hg.n9 rfl rfl rfl rfl rfl ?_
      (repeat refine zo rfl rfl trivial ?_)
      refine o_is false _ _ rfl rfl rfl (by simp) ?_
      (repeat refine zo rfl rfl trivial ?_)
      refine o_load rfl hg.n7 rfl rfl rfl rfl rfl ?_
      refine o_load rfl hg.n9 rfl rfl rfl rfl rfl ?_
      (repeat refine zo rfl rfl (by first|exact trivial|(simp only[AllP];omega)) ?_)
      refine o_loadc (v := S xt) rfl hcell rfl rfl rfl rfl ?_
      (repeat first|refine zo rfl rfl trivial ?_|refine zn ?_)
      refine r_ifn rfl (fun hbad => ?_) (fun _ => ?_)
      · exact absurd rfl hbad
      (repeat first|refine zA ?_|refine zg ?_|refine zk ?_)
      refine o_load rfl hg.n9 rfl rfl rfl rfl rfl ?_
      (repeat refine zo rfl rfl (by first|exact trivial|(simp only[AllP];omega)) ?_)
      refine o_store rfl hg.n9 (by simp) rfl rfl rfl rfl rfl rfl ?_
      intro W3 hu3
      have hg3 := hg.set (k' := pre.length + 1) hu3
      have hne9 := hkeep.neB hg.n9
      have hkeep3 := hkeep.upd hu3 hne9.1 hne9.2 (fun hb => (hg.fB b9 hb).2 rfl)
      have hlen : (pre ++ [(pre.length, xt)]).length = pre.length + 1 := by simp
      (repeat first|refine zA ?_|refine zg ?_|refine zn ?_)
      refine o_load rfl hg3.n9 rfl rfl rfl rfl rfl ?_
      refine o_load rfl hg3.n5 rfl rfl rfl rfl rfl ?_
      (repeat first|refine zo rfl rfl trivial ?_|refine zn ?_)
      refine r_if rfl (fun hc => ?_) (fun hc => ?_)
      · have hc : ((pre.length + 1 : Nat) : Int) = leave := hc
        (repeat refine ze rfl ?_)
        exact ⟨⟨rfl, by rw [hlen]; exact hg3, by rw [hlen]; exact hc, by omega, by rw [hlen]; omega⟩, hkeep3⟩
      · have hc : ¬ ((pre.length + 1 : Nat) : Int) = leave := hc
        (repeat refine zk ?_)
        exact ⟨⟨by rw [hlen]; exact hg3, by rw [hlen]; omega⟩, hkeep3⟩
    · rintro D W hD ⟨hg, hlv2⟩ hsh
      rw [nums_length] at hg hlv2
      exact ⟨D, L.length, rfl, rfl, hg, hsh, hD, by omega⟩
    · rintro D c pre post W hD hcc hx' ⟨hc, hg, hq1, hq2, hq3⟩ hsh
      subst hc
      refine m_exit rfl ?_
      exact ⟨D, pre.length, rfl, rfl, hg, hsh, hD, .inr ⟨hq2, by omega⟩⟩
  · rintro ds e W ⟨D, k, rfl, hes, hg, hsh, hD, hk⟩
    have hov := over_eq hes
    rw [← hov]
    have hkl : k ≤ L.length := by omega
    refine m_seqC (fun ds e2 W2 => ds = [D] ∧ List.map e2 [5, 6, 7, 8, 9] = [ptr b5, ptr b6, ptr b7, .func (.func ff) #[] ⟨lb⟩, ptr b9] ∧ W2 = W) ?_ ?_
    · refine m_of ?_
      (repeat first|refine zA ?_|refine zg ?_)
      refine o_load rfl hg.n5 rfl rfl rfl rfl rfl ?_
      (repeat refine zo rfl rfl trivial ?_)
      by_cases c : leave ≤ 0
      · refine o_is true _ _ rfl rfl rfl (decide_eq_true c) ?_
        refine o_load rfl hg.n9 rfl rfl rfl rfl rfl ?_
        refine o_load rfl hg.n7 rfl rfl rfl rfl rfl ?_
        (repeat refine zo rfl rfl trivial ?_)
        refine o_is false _ _ rfl rfl rfl (by simp only [Bool.not_eq_false', decide_eq_true_eq]; omega) ?_
        refine o_load rfl hg.n5 rfl rfl rfl rfl rfl ?_
        (repeat refine zo rfl rfl trivial ?_)
        refine o_is false _ _ rfl rfl rfl (by simp only [decide_eq_false_iff_not]; omega) ?_
        (repeat first|refine zo rfl rfl trivial ?_|refine zn ?_|refine zk ?_|refine zf rfl ?_)
        exact ⟨rfl, rfl, rfl⟩
      · refine o_is false _ _ rfl rfl rfl (decide_eq_false c) ?_
        (repeat first|refine zo rfl rfl trivial ?_|refine zU rfl rfl rfl ?_)
        refine o_load rfl hg.n5 rfl rfl rfl rfl rfl ?_
        (repeat refine zo rfl rfl trivial ?_)
        refine o_is true _ _ rfl rfl rfl (by simp only [decide_eq_true_eq]; omega) ?_
        refine o_load rfl hg.n9 rfl rfl rfl rfl rfl ?_
        refine o_load rfl hg.n5 rfl rfl rfl rfl rfl ?_
        refine o_load rfl hg.n7 rfl rfl rfl rfl rfl ?_
        (repeat first|refine zo rfl rfl trivial ?_|refine zn ?_)
        refine r_ifn rfl (fun hbad => ?_) (fun _ => ?_)
        · exact absurd (show (k : Int) = min leave L.length by omega) hbad
        (repeat refine zk ?_)
        exact ⟨rfl, rfl, rfl⟩
    rintro ds e2 W2 ⟨rfl, hes2, rfl⟩
    have hov2 := over_eq hes2
    rw [← hov2]
    refine m_seq (m_of ?_)
    (repeat refine zg ?_)
    refine o_store rfl hg.n9 (by simp) rfl rfl rfl rfl rfl rfl ?_
    intro W11 hu11
    have hg11 := hg.set (k' := 0) hu11
    have hD9 : D ≠ b9 := fun e => by
      have := hg.n9
      unfold Blk at this
      rw [← e, hsh] at this; cases this
    have hsh11 : W11.heap[D]? = some (.deferred (some [])) := (hu11.other D hD9).trans hsh
    have hI11 := hI10.kp hg11.sz hg11.fp
    have hDlt := (Array.getElem?_eq_some_iff.1 hsh11).1
    (repeat refine zn ?_)
    refine m_seq ?_
    refine m_seq (m_of ?_)
    (repeat first|refine zg ?_|refine zo rfl rfl trivial ?_|refine zn ?_)
    refine m_block ?_
    refine m_range hI11 [] (fun pre W => WkI w0 w10 Fp b5 b6 b7 b9 leave L adN capN G pre.length W ∧ W.heap[D]? = some (.deferred (some []))) (fun c pre W => False) rfl rfl (fun _ => rfl) ?_ ?_ ?_ ?_ ?_ ?_
    · rintro pre W1 W2 ⟨hg, hs⟩ hnc
      exact ⟨hg.nc hnc (by have := hg11.sz; omega), (hnc.at_lt hDlt (Array.getElem?_eq_some_iff.1 hs).1).trans hs⟩
    · rintro c pre W1 W2 hf hnc
      exact hf
    · exact ⟨hg11, hsh11⟩
    · intro D2 ll r pre x post W hx' hD2 hll
      (repeat first|refine zA ?_|refine zg ?_|refine zo rfl rfl trivial ?_|refine zn ?_)
      refine ⟨rfl, ?_⟩
      rintro W2 ⟨hg, hs⟩ hkeep
      obtain ⟨xn, xt⟩ := x
      obtain ⟨hx1, hx2⟩ := nums_split hx'
      dsimp only at hx1 hx2
      subst hx1
      have hpl : pre.length + 1 + post.length = L.length := by rw [← nums_length (l := L), hx']; simp; omega
      obtain ⟨bN, off, rfl, hcell⟩ := hg.read (W' := W2) hx2
      (repeat first|refine zA ?_|refine zB ?_|refine zg ?_|refine zb ?_)
      refine o_load rfl hg.n9 rfl rfl rfl rfl rfl ?_
      refine o_load rfl hg.n7 rfl rfl rfl rfl rfl ?_
      (repeat refine zo rfl rfl trivial ?_)
      refine o_is false _ _ rfl rfl rfl (by simp only [decide_eq_false_iff_not]; omega) ?_
      (repeat refine zo rfl rfl trivial ?_)
      refine o_load rfl hg.n9 rfl rfl rfl rfl rfl ?_
      (repeat refine zo rfl rfl trivial ?_)
      refine o_is false _ _ rfl rfl rfl (by simp) ?_
      (repeat refine zo rfl rfl trivial ?_)
      refine o_load rfl hg.n7 rfl rfl rfl rfl rfl ?_
      refine o_load rfl hg.n9 rfl rfl rfl rfl rfl ?_
      (repeat refine zo rfl rfl (by first|exact trivial|(simp only[AllP];omega)) ?_)
      refine o_loadc (v := S xt) rfl hcell rfl rfl rfl rfl ?_
      (repeat first|refine zo rfl rfl trivial ?_|refine zn ?_)
      refine r_ifn rfl (fun hbad => ?_) (fun _ => ?_)
      · exact absurd rfl hbad
      (repeat first|refine zg ?_|refine zk ?_)
      refine o_load rfl hg.n9 rfl rfl rfl rfl rfl ?_
      (repeat refine zo rfl rfl (by first|exact trivial|(simp only[AllP];omega)) ?_)
      refine o_store rfl hg.n9 (by simp) rfl rfl rfl rfl rfl rfl ?_
      intro W3 hu3
      have hg3 := hg.set (k' := pre.length + 1) hu3
      have hne9 := hkeep.neB hg.n9
      have hkeep3 := hkeep.upd hu3 hne9.1 hne9.2 (fun hb => (hg.fB b9 hb).2 rfl)
      have hlen : (pre ++ [(pre.length, xt)]).length = pre.length + 1 := by simp
      (repeat refine zn ?_)
      exact ⟨⟨by rw [hlen]; exact hg3, (hu3.other D hD9).trans hs⟩, hkeep3⟩
    · rintro D2 W hD2 ⟨hg, hs⟩ hsh2
      rw [nums_length] at hg
      refine m_of ?_
      (repeat first|refine zA ?_|refine zg ?_)
      refine o_load rfl hg.n9 rfl rfl rfl rfl rfl ?_
      refine o_load rfl hg.n7 rfl rfl rfl rfl rfl ?_
      (repeat refine zo rfl rfl trivial ?_)
      refine o_store rfl hg.n6 (by simp) rfl rfl rfl rfl rfl rfl ?_
      intro W12 hu12
      have hs12 := hu12.size
      have nb6 : ∀ i, b6 ∉ G.F i := fun i hb => by rw [← hG] at hb; have := hfar i b6 hb; omega
      have hD6 : D ≠ b6 := fun e => by
        have := hg.n6
        unfold Blk at this
        rw [← e, hs] at this; cases this
      have hD26 : D2 ≠ b6 := fun e => by
        have := hg.n6
        unfold Blk at this
        rw [← e, hsh2] at this; cases this
      have h12 := hg.ds.frame (hu12.kp [b6] (.inl (by simp))) (fun i b hb hm => by
        simp only [List.mem_singleton] at hm; subst hm; exact nb6 i hb)
      have kp12 : Kp [] w0 W12 := hg.kp.since (hu12.kp [b6] (.inl (by simp))) (by simp; omega)
      have hdec : decide ((L.length : Int) = L.length) = true := by simp
      have n12 := hu12.blk
      rw [hdec] at n12
      (repeat first|refine zn ?_|refine zr ?_)
      refine ⟨(hu12.other D2 hD26).trans hsh2, fun W13 hu13 => ?_⟩
      have hD2W : w10.heap.size ≤ D2 := by have := hg11.sz; omega
      have c13 : Nc w10.heap.size W12 W13 := hu13.nc hD2W (fun x hx => by rw [(hu12.other D2 hD26).trans hsh2] at hx; cases hx; rfl)
      have hDD : D ≠ D2 := by omega
      have hs13 : W13.heap[D]? = some (.deferred (some [])) := (hu13.other D hDD).trans ((hu12.other D hD6).trans hs)
      refine ⟨hs13, fun W14 hu14 => ?_⟩
      have c14 : Nc w10.heap.size W13 W14 := hu14.nc (by omega) (fun x hx => by rw [hs13] at hx; cases hx; rfl)
      have n14 := c14.blk (c13.blk n12)
      have d14 := (h12.nc c13 hg.Fl).nc c14 hg.Fl
      rw [← hG] at d14
      exact ⟨[.bool true], ⟨⟨_, rfl, run_loadC rfl rfl (n14.cell rfl)⟩, trivial⟩, rfl, c14.kp (c13.kp kp12 (by omega)) (by omega), f', o', d14, heq8⟩
    · rintro D2 c pre post W hD2 _ hx' hf hsh2
      exact hf.elim
end Go.Vc
