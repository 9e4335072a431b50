/- Query: run. -/
import Derived.Test.YtkgngbpkiklckaaGreatDoorQClQAlike38
import Derived.Test.YtkgngbpkiklckaaGreatDoorQClQAlike22
namespace Go.Vc
open Go Go.Proofs
set_option maxRecDepth 10000
variable {w : World} {g : MG}
theorem run_load1 {P : Program} {b : Nat} {v : Value} {T t : TypeId} {d : TypeDesc} (hb : Blk w b [v] T) (hu : P.underlying t = some d) (ha : aggD d = false) : (loadVar t ⟨b, 0, none⟩).run P w = .ok v w := by
  have hc : w.cell? ⟨b, 0, none⟩ = some v := hb.cell (off := 0) rfl
  simp [loadVar, isAgg_run hu ha, hc]
theorem runD_ret (q f : Nat) : DRet Tryz.prog 94 [ptr q, ptr f] .returning w (fun u' w' => u' = .returning ∧ w' = w) := by
  refine enterS none Tryz.call94 Tryz.func94 rfl rfl rfl rfl rfl rfl ?_
  (repeat first|refine zA ?_|refine zg ?_|refine zo rfl rfl trivial ?_)
  refine o_neqNN rfl rfl rfl rfl ?_
  (repeat first|refine zn ?_|refine zk ?_|refine zf rfl ?_)
  exact rfl
theorem runD_pan {q f : Nat} {cq cf : List Value} (hq : Blk w q cq 3) (hlq : cq.length = 1) (hf : Blk w f cf 4) (hlf : cf.length = 1) (hqf : q ≠ f) :
    DRet Tryz.prog 94 [ptr q, ptr f] (.panicking [{ v := tiredV, recovered := false }]) w (fun u' w' => u' = .panicking [{ v := tiredV, recovered := true }] ∧ Blk w' q [I 0] 3 ∧ Blk w' f [.bool false] 4 ∧ Kp [q, f] w w') := by
  have hql := hq.lt
  have hfl := hf.lt
  obtain ⟨x, rfl⟩ := List.length_eq_one_iff.1 hlq
  obtain ⟨y, rfl⟩ := List.length_eq_one_iff.1 hlf
  refine enterS (some tiredV) Tryz.call94 Tryz.func94 rfl rfl rfl rfl rfl rfl ?_
  (repeat first|refine zA ?_|refine zB ?_|refine zg ?_|refine zo rfl rfl trivial ?_|refine zn ?_|refine zt rfl ?_)
  refine o_assertYes (v := .agg ⟨[]⟩) rfl rfl rfl rfl rfl rfl ?_
  (repeat refine zo rfl rfl trivial ?_)
  refine o_alloc rfl rfl rfl rfl ?_
  intro b w2 hb hu2
  refine o_storeA (b := b) (cs := []) rfl hu2.blk (Nat.le_refl _) rfl (by simp) rfl rfl rfl rfl ?_
  intro w3 hu3
  have k3 : Kp [] w w3 := (hu2.kp [] (.inr (by omega))).since (hu3.kp [b] (.inl (by simp))) (by simp; omega)
  have hq3 := k3.blk (by simp) hq
  have hf3 := k3.blk (by simp) hf
  (repeat first|refine zA ?_|refine zg ?_|refine zo rfl rfl trivial ?_|refine zn ?_|refine zk ?_|refine zf rfl ?_)
  refine o_store (b := q) (off := 0) (v := I 0) rfl hq3 (by simp) rfl rfl rfl rfl rfl rfl ?_
  intro w4 hu4
  refine o_store (b := f) (off := 0) (v := .bool false) rfl (hu4.kept hqf.symm hf3) (by simp) rfl rfl rfl rfl rfl rfl ?_
  intro w5 hu5
  (repeat refine zn ?_)
  exact ⟨hu5.kept hqf hu4.blk, hu5.blk, ((k3.mono (by simp)).trans (hu4.kp _ (.inl (by simp)))).trans (hu5.kp _ (.inl (by simp)))⟩
set_option maxHeartbeats 6400000 in
theorem run_ret {t : QT} (hg : goodT t) {wT : World} {l0 tq : Nat} (hT : TreeAt shQ l0 wT t tq) (kT : Kp [] wT w) (hFT : ∀ b ∈ g.F, wT.heap.size ≤ b) (hM : MAt w g (fun _ => none) 0) (hok : g.Ok) :
    Ret Tryz.prog 47 [ptr g.p, ptr tq] w (fun v w' => (((evq (QO g) t fun _ => 0).2 ≤ g.fuel ∧ v = .tuple #[I (evq (QO g) t fun _ => 0).1, .bool true] ∧ MAt w' g (fun _ => none) (evq (QO g) t fun _ => 0).2) ∨ (g.fuel < (evq (QO g) t fun _ => 0).2 ∧ v = .tuple #[I 0, .bool false])) ∧ Kp g.F w w') := by
  have hsg : sg (fun _ => none) = fun _ => 0 := rfl
  have hplt := hM.hdr.lt
  have hmlt := hM.map.lt
  generalize hans : evq (QO g) t (fun _ => 0) = ans
  refine RetP.ret (E := fun _ _ => False) ?_ (fun _ _ h => h)
  refine enterD Tryz.call47 Tryz.func47 rfl rfl rfl ?_
  refine t_seq (R := fun _ _ => False) (pan := fun _ _ => False) ?_ (fun _ _ _ _ h => h.elim) (fun _ _ _ _ h => h.elim)
  (repeat refine zg ?_)
  refine o_alloc rfl rfl rfl rfl ?_
  intro q w1 hq hu1
  refine o_alloc rfl rfl rfl rfl ?_
  intro f w2 hf hu2
  have s1 := hu1.size
  have s1' := hu1.lt
  have s2 := hu2.lt
  have k1 : Kp [] w w1 := hu1.kp [] (.inr (by omega))
  have k2 : Kp [] w w2 := k1.trans (hu2.kp [] (.inr (by omega)))
  have hqf : q ≠ f := by omega
  have hBq : Blk w2 q [I 0] 3 := hu2.kept hqf hu1.blk
  have hBf : Blk w2 f [.bool false] 4 := hu2.blk
  clear hu1 hu2
  have hqF : q ∉ g.F := by simp [MG.F]; omega
  have hfF : f ∉ g.F := by simp [MG.F]; omega
  have hM2 := hM.kp0 k2
  (repeat refine zn ?_)
  refine t_seqD ?_
  refine oq_run rfl rfl ?_
  refine oq_defer rfl rfl ?_
  refine oq_nil ?_
  have resE : ∀ {e : Env} {w' : World} {n : Int} {b : Bool}, e 4 = ptr q → e 5 = ptr f → Blk w' q [I n] 3 → Blk w' f [.bool b] 4 → resC Tryz.prog e w' [.cell 4 3, .cell 5 4] [I n, .bool b] := fun h1 h2 h3 h4 =>
    ⟨⟨_, h1, run_load1 h3 rfl rfl⟩, ⟨_, h2, run_load1 h4 rfl rfl⟩, trivial⟩
  refine t_then (t_region ?_)
  refine oq_run rfl rfl ?_
  refine oq_run rfl rfl ?_
  refine oq_callP ((ready_ret t hg hT (kT.trans k2) hFT hM2 hok).p (E := fun _ _ => False)) rfl rfl (fun _ _ _ _ h => h.elim) ?_
  rintro v w3 ⟨⟨fn, first, caps, rfl, hA⟩, k3⟩
  have hM3 := hM2.kp0 k3
  have hcall := hA [] w3 (fun _ => none) 0 (by simp) (Kp.refl _ _) hM3 (Nat.zero_le _)
  rw [hsg, hans] at hcall
  refine oq_callvP (first := first) (cap := caps) hcall rfl (by simp) rfl (fun a v w' hfit hE => ?_) ?_
  · obtain ⟨j1, rfl, j3, _⟩ := hE
    refine body_pan hfit.defers (goes_one (cap := [ptr q, ptr f]) (by intro h; cases h) ((runD_pan (j3.blk hqF (k3.blk (by simp) hBq)) rfl (j3.blk hfF (k3.blk (by simp) hBf)) rfl hqf).mono ?_))
    rintro u' w'' ⟨rfl, b1, b2, b3⟩
    refine goes_ret rfl hfit (resE rfl rfl b1 b2) ⟨.inr ⟨by omega, rfl⟩, (((k2.trans k3).mono (by simp)).trans j3).after b3 (fun b hb => .inr ?_)⟩
    simp only [List.mem_cons, List.not_mem_nil, or_false] at hb
    omega
  rintro v w4 ⟨rfl, j1, j2, j3⟩
  have hBq4 := j3.blk hqF (k3.blk (by simp) hBq)
  have hBf4 := j3.blk hfF (k3.blk (by simp) hBf)
  refine oq_ops (K := fun e w' => e 4 = ptr q ∧ e 5 = ptr f ∧ Blk w' q [I ans.1] 3 ∧ Blk w' f [.bool true] 4 ∧ Kp [q, f] w4 w') ?_ ?_
  · refine o_store (b := q) (off := 0) (v := I ans.1) rfl hBq4 (by simp) rfl rfl rfl rfl rfl rfl ?_
    intro w5 hu5
    refine o_store (b := f) (off := 0) (v := .bool true) rfl (hu5.kept hqf.symm hBf4) (by simp) rfl rfl rfl rfl rfl rfl ?_
    intro w6 hu6
    refine o_nil ?_
    exact ⟨rfl, rfl, hu6.kept hqf hu5.blk, hu6.blk, (hu5.kp _ (.inl (by simp))).trans (hu6.kp _ (.inl (by simp)))⟩
  · rintro a e w5 hfit ⟨h4, h5, b1, b2, k5⟩
    refine wpIn_ret ?_
    refine body_ret hfit (goes_one (cap := [ptr q, ptr f]) (by intro h; cases h) ((runD_ret q f).mono ?_))
    rintro u' w6 ⟨rfl, rfl⟩
    have hlt4 : ∀ b ∈ g.og.F, b ∉ [q, f] := fun b hb hbq => by
      have hx := hM.ord.fl b hb
      simp only [List.mem_cons, List.not_mem_nil, or_false] at hbq
      omega
    refine goes_ret rfl hfit (resE h4 h5 b1 b2) ⟨.inl ⟨by omega, rfl, ?_⟩, (((k2.trans k3).mono (by simp)).trans j3).after k5 (fun b hb => .inr ?_)⟩
    · rw [Nat.zero_add] at j2
      refine j2.kp k5 ?_ ?_
      · intro b hb
        simp only [List.mem_cons, List.not_mem_nil, or_false] at hb
        rcases hb with rfl | rfl
        · exact hqF
        · exact hfF
      · exact fun b hb hbo => hlt4 b hbo hb
    · simp only [List.mem_cons, List.not_mem_nil, or_false] at hb
      omega
end Go.Vc
/- Query: Ask. -/
namespace Go.Vc
open Go Go.Proofs
set_option maxRecDepth 10000
variable {w : World}
structure Rep where
  sort : Int
  num : Int
  truth : Bool
  steps : Int
  deriving DecidableEq
def repC (r : Rep) : List Value := [I r.sort, I r.num, .bool r.truth, I r.steps]
def rep0 : Rep := ⟨0, 0, false, 0⟩
/-- whether there is an order; 0: there is -/
noncomputable def orderM (s : Shp) (E : List Ev) : Int := if shapeB s = false then 5 else if 2048 < E.length then 3 else if propB (okTo s E E.length) then 0 else 6
theorem orderM_bad {s : Shp} {E : List Ev} {e : Int} (h : badO s E e) : orderM s E = e ∧ e ≠ 0 := by
  unfold orderM
  rcases h with ⟨rfl, h⟩ | ⟨rfl, h1, h2⟩ | ⟨rfl, h1, h2, h3⟩
  · rw [if_pos h]; exact ⟨rfl, by decide⟩
  · rw [if_neg (by rw [h1]; simp), if_pos h2]; exact ⟨rfl, by decide⟩
  · rw [if_neg (by rw [h1]; simp), if_neg (by omega), if_neg (by rw [propB_iff]; exact h3)]; exact ⟨rfl, by decide⟩
theorem orderM_ok {s : Shp} {E : List Ev} (h1 : shapeB s = true) (h2 : E.length ≤ 2048) (h3 : okTo s E E.length) : orderM s E = 0 := by
  unfold orderM
  rw [if_neg (by rw [h1]; simp), if_neg (by omega), if_pos (propB_iff.2 h3)]
/-- an answer with fuel -/
def fuelM (a : Int × Nat) (sort fuel : Int) : Rep × Int :=
  if fuel < 0 ∨ 67108864 < fuel then (rep0, 2) else if fuel < a.2 then (rep0, 306) else if sort = 2 then (⟨2, 0, decide (a.1 = 1), a.2⟩, 0) else (⟨sort, a.1, false, a.2⟩, 0)
/-- P30.4 as the program has it -/
noncomputable def askM (l : List QN) (s : Shp) (E : List Ev) (fuel : Int) : Rep × Int :=
  match lookedM l with
  | .error c => (rep0, c)
  | .ok t => if orderM s E = 0 then fuelM (evq (qwO E (rnds s E E.length)) t fun _ => 0) (answerO t.op.toNat) fuel else (rep0, orderM s E)
set_option maxHeartbeats 12800000 in
theorem Ask_ret {l : List QN} {ad pad ead : Option Addr} {cap pcap ecap : Nat} {s : Shp} {E : List Ev} {fuel : Int} (hA : AscW w) (hR : Rows w ad cap l) (hp : ReadS w pad (s.pa.map I)) (hpl : s.pa.length ≤ 1048576) (he : ReadS w ead (evsC E)) (hel : E.length ≤ 1048576) :
    Ret Tryz.prog 17 [qV ad l.length cap, .agg ⟨shC s pad pcap⟩, .slice ead E.length ecap, I fuel] w (fun v w' => v = .tuple #[.agg ⟨repC (askM l s E fuel).1⟩, I (askM l s E fuel).2] ∧ Kp [] w w') := by
  refine enterC Tryz.call17 Tryz.func17 rfl rfl rfl rfl ?_
  (repeat first|refine zA ?_|refine zg ?_)
  refine o_box rfl rfl rfl ?_
  intro b4 w1 e4 hu1
  have k1 : Kp [] w w1 := hu1.kp [] (.inr (by omega))
  refine o_box rfl rfl rfl ?_
  intro b5 w2 e5 hu2
  have l1 := hu1.lt
  have k2 : Kp [] w1 w2 := hu2.kp [] (.inr (by omega))
  refine o_alloc rfl rfl rfl rfl ?_
  intro b8 w3 e8 hu3
  have l2 := hu2.lt
  have k3 : Kp [] w2 w3 := hu3.kp [] (.inr (by omega))
  have h4 : Blk w3 b4 [.slice ad l.length cap] 24 := (k2.trans k3).blk (by simp) hu1.blk
  have h5 : Blk w3 b5 (shC s pad pcap) 27 := k3.blk (by simp) hu2.blk
  have h8 : Blk w3 b8 (repC rep0) 45 := hu3.blk
  have k03 := (k1.trans k2).trans k3
  have y1 := k1.size
  have y2 := k2.size
  have hb8 : w.heap.size ≤ b8 := by omega
  clear hu1 hu2 hu3
  have bad : ∀ {e : Env} {W : World} {r : Rep} {x : Int}, e 8 = ptr b8 → e 9 = I x → Blk W b8 (repC r) 45 → resC Tryz.prog e W [.cell 8 45, .tmp 9] [.agg ⟨repC r⟩, I x] := fun h1 h2 h3 =>
    ⟨⟨_, h1, run_loadB h3 rfl rfl rfl rfl⟩, ⟨none, by rw [h2]; rfl⟩, trivial⟩
  have hask : askM l s E fuel = match lookedM l with
    | .error c => (rep0, c)
    | .ok t => if orderM s E = 0 then fuelM (evq (qwO E (rnds s E E.length)) t fun _ => 0) (answerO t.op.toNat) fuel else (rep0, orderM s E) := rfl
  (repeat first|refine zA ?_|refine zg ?_|refine zo rfl rfl trivial ?_|refine zn ?_)
  refine o_loadA (vs := [.slice ad l.length cap]) rfl (fun j v hv => by rw [Nat.zero_add]; exact h4.cell hv) rfl rfl rfl rfl rfl rfl ?_
  refine o_call (looked_ret (hA.kp k03 (by simp)) (hR.kp k03 (by simp))) rfl rfl rfl ?_
  rintro v w4 ⟨hv, k4⟩
  have k04 := k03.trans k4
  have h84 := k4.blk (by simp) h8
  have h54 := k4.blk (by simp) h5
  cases hl : lookedM l with
  | error c =>
    rw [hl] at hv hask
    have hv : v = .tuple #[.pointer none, I c] := hv
    have hc : c ≠ 0 := by
      unfold lookedM at hl
      split at hl
      · cases hl; decide
      · split at hl
        · cases hl; decide
        · split at hl
          · cases hl; decide
          · cases hl
    subst hv
    rw [hask]
    (repeat first|refine zA ?_|refine zB ?_|refine zg ?_|refine zo rfl rfl trivial ?_|refine zn ?_)
    refine r_ifn rfl (fun _ => ?_) (fun h => absurd h hc)
    (repeat first|refine zA ?_|refine zg ?_)
    refine o_build (repC rep0) rfl rfl rfl rfl rfl rfl rfl ?_
    (repeat refine zo rfl rfl trivial ?_)
    refine o_storeA (b := b8) (cs := repC rep0) rfl h84 (Nat.le_refl _) rfl (by simp [Value.oneCell', repC]) rfl rfl rfl rfl ?_
    intro w5 hu5
    (repeat first|refine zo rfl rfl trivial ?_|refine zn ?_|refine zr ?_)
    exact ⟨_, bad rfl rfl hu5.blk, rfl, k04.since (hu5.kp [b8] (.inl (by simp))) (by simpa using hb8)⟩
  | ok t =>
    rw [hl] at hv hask
    have hask : askM l s E fuel = if orderM s E = 0 then fuelM (evq (qwO E (rnds s E E.length)) t fun _ => 0) (answerO t.op.toNat) fuel else (rep0, orderM s E) := hask
    obtain ⟨tp, rfl, hT⟩ := hv
    obtain ⟨hgd, _, _⟩ := whole_good (l := l) hR.num (by
      unfold lookedM at hl
      split at hl
      · cases hl
      · rename_i t' ht'
        split at hl
        · cases hl
        · split at hl
          · cases hl
          · cases hl; exact ht')
    (repeat first|refine zA ?_|refine zB ?_|refine zg ?_|refine zo rfl rfl trivial ?_|refine zn ?_|refine zk ?_|refine zf rfl ?_)
    refine o_loadA (vs := shC s pad pcap) rfl (fun j v hv => by rw [Nat.zero_add]; exact h54.cell hv) rfl rfl rfl rfl rfl rfl ?_
    (repeat refine zo rfl rfl trivial ?_)
    refine o_call (oNew_ret (hp.kp k04 (by simp)) hpl (he.kp k04 (by simp)) hel) rfl rfl rfl ?_
    rintro v w5 (⟨e, hbad, rfl, k5⟩ | ⟨hs1, hs2, hs3, og, rfl, hO5, k5, hog⟩)
    · obtain ⟨ho1, ho2⟩ := orderM_bad hbad
      rw [hask, ho1, if_neg ho2]
      have h85 := k5.blk (by simp) h84
      (repeat first|refine zA ?_|refine zB ?_|refine zg ?_|refine zo rfl rfl trivial ?_|refine zn ?_)
      refine r_ifn rfl (fun _ => ?_) (fun h => absurd h ho2)
      (repeat first|refine zA ?_|refine zg ?_)
      refine o_build (repC rep0) rfl rfl rfl rfl rfl rfl rfl ?_
      (repeat refine zo rfl rfl trivial ?_)
      refine o_storeA (b := b8) (cs := repC rep0) rfl h85 (Nat.le_refl _) rfl (by simp [Value.oneCell', repC]) rfl rfl rfl rfl ?_
      intro w6 hu6
      (repeat first|refine zo rfl rfl trivial ?_|refine zn ?_|refine zr ?_)
      exact ⟨_, bad rfl rfl hu6.blk, rfl, (k04.trans k5).since (hu6.kp [b8] (.inl (by simp))) (by simpa using hb8)⟩
    rw [orderM_ok hs1 hs2 hs3, if_pos rfl] at hask
    have k05 := k04.trans k5
    have h85 := k5.blk (by simp) h84
    rw [hask]
    unfold fuelM
    (repeat first|refine zA ?_|refine zB ?_|refine zg ?_|refine zo rfl rfl trivial ?_|refine zn ?_|refine zk ?_|refine zf rfl ?_)
    refine o_bool [3, 8, 10, 12] [I fuel, ptr b8, ptr tp, ptr og.p] 41 (decide (fuel < 0 ∨ 67108864 < fuel)) (fun W => W = w5) ?_ ?_
    · refine o_split _ _ rfl rfl rfl (fun h1 => ?_) (fun h1 => ?_)
      · have h1 : fuel < 0 := of_decide_eq_true h1
        (repeat first|refine zo rfl rfl trivial ?_|refine zn ?_)
        exact ⟨rfl, ⟨_, rfl, by simp [h1]⟩, rfl⟩
      · have h1 : ¬ fuel < 0 := of_decide_eq_false h1
        (repeat first|refine zo rfl rfl trivial ?_|refine zn ?_)
        exact ⟨rfl, ⟨_, rfl, by rw [decide_eq_decide]; omega⟩, rfl⟩
    rintro e5' w5' rfl
    refine r_cond rfl (fun hb => ?_) (fun hb => ?_)
    · have hb := of_decide_eq_true hb
      rw [if_pos hb]
      (repeat first|refine zA ?_|refine zg ?_)
      refine o_build (repC rep0) rfl rfl rfl rfl rfl rfl rfl ?_
      refine o_storeA (b := b8) (cs := repC rep0) rfl h85 (Nat.le_refl _) rfl (by simp [Value.oneCell', repC]) rfl rfl rfl rfl ?_
      intro w6 hu6
      (repeat first|refine zo rfl rfl trivial ?_|refine zn ?_|refine zr ?_)
      exact ⟨_, bad rfl rfl hu6.blk, rfl, k05.since (hu6.kp [b8] (.inl (by simp))) (by simpa using hb8)⟩
    have hb := of_decide_eq_false hb
    rw [if_neg hb]
    obtain ⟨fu, rfl⟩ : ∃ fu : Nat, fuel = fu := ⟨fuel.toNat, by omega⟩
    -- the machine
    have y4 := k04.size
    have y5 := k05.size
    (repeat first|refine zA ?_|refine zg ?_|refine zo rfl rfl trivial ?_|refine zk ?_)
    refine ops_does (v := .map (some w5'.heap.size)) (w' := w5'.alloc (.map #[] 0)) rfl rfl (by
      have hr : (Instr.makeMap 112 none).run Tryz.prog w5' = .ok (.map (some w5'.heap.size)) (w5'.alloc (.map #[] 0)) := rfl
      simp only [execOp, Sem.run_bind, Option.map_none, hr, Result.andThen_ok, Sem.run_pure]) ?_
    have hua := upd_alloc w5' (.map #[] 0)
    generalize w5'.alloc (.map #[] 0) = w6 at hua ⊢
    have k6 : Kp [] w5' w6 := hua.kp [] (.inr (Nat.le_refl _))
    have hmap : MapT w6 w5'.heap.size (fun _ => none) := ⟨#[], 0, hua.at_, MapFnT.nil⟩
    have l6 := hua.lt
    (repeat refine zo rfl rfl trivial ?_)
    refine o_build [ptr og.p, .map (some w5'.heap.size), I 0, I fu] rfl rfl rfl rfl rfl rfl rfl ?_
    refine o_box rfl rfl rfl ?_
    intro mp w7 e7 hu7
    have k7 : Kp [] w6 w7 := hu7.kp [] (.inr (by omega))
    have l7 := hu7.lt
    have k57 := k6.trans k7
    let g : MG := ⟨mp, w5'.heap.size, og, E, rnds s E E.length, fu⟩
    have hgF : g.F = [mp, w5'.heap.size] := rfl
    have hok : g.Ok := by
      refine ⟨by show mp ≠ w5'.heap.size; omega, fun b hb => ?_, by show fu ≤ 67108864; omega⟩
      have := hO5.fl b hb
      rw [hgF]; simp; omega
    have hM7 : MAt w7 g (fun _ => none) 0 := ⟨hu7.blk, hmap.kp k7 (by simp), hO5.kp0 k57⟩
    have k47 := k5.trans k57
    have hFT : ∀ b ∈ g.F, w4.heap.size ≤ b := by
      have y5' := k5.size
      intro b hb
      rw [hgF] at hb
      simp only [List.mem_cons, List.not_mem_nil, or_false] at hb
      omega
    have h87 := k57.blk (by simp) h85
    clear hu7 hua
    (repeat first|refine zA ?_|refine zg ?_|refine zo rfl rfl trivial ?_|refine zn ?_)
    refine o_call (run_ret (g := g) hgd hT k47 hFT hM7 hok) rfl rfl rfl ?_
    generalize hans : evq (QO g) t (fun _ => 0) = ans
    have hans : evq (qwO E (rnds s E E.length)) t (fun _ => 0) = ans := hans
    try rw [hans]
    rintro v w8 ⟨hv, k8⟩
    have k08 : Kp [] w w8 := (k04.trans k47).since k8 (fun b hb => by have := hFT b hb; omega)
    have h8F : b8 ∉ g.F := by have := h85.lt; rw [hgF]; simp; omega
    have h88 := k8.blk h8F h87
    have hT8 : TreeAt shQ w4.heap.size w8 t tp ∨ True := .inr trivial
    obtain ⟨bad', bcap', ks', _, hBt, _, _, _⟩ := hT.view
    have hB8 := (k47.since k8 hFT).blk (by simp) hBt
    have hans2 : (answerO t.op.toNat = 1 ∨ answerO t.op.toNat = 2) := by
      obtain ⟨k, hk, h1, h2, _⟩ := good_op hgd
      rw [hk, Int.toNat_natCast]
      unfold answerO
      rw [if_neg (by omega)]
      split <;> simp
    rcases hv with ⟨hle, rfl, hM8⟩ | ⟨hgt, rfl⟩
    rotate_left
    · have hgt : (fu : Int) < ans.2 := by have : g.fuel = fu := rfl; omega
      rw [if_pos hgt]
      (repeat first|refine zA ?_|refine zB ?_|refine zg ?_|refine zo rfl rfl trivial ?_|refine zn ?_|refine zt rfl ?_)
      refine o_build (repC rep0) rfl rfl rfl rfl rfl rfl rfl ?_
      refine o_storeA (b := b8) (cs := repC rep0) rfl h88 (Nat.le_refl _) rfl (by simp [Value.oneCell', repC]) rfl rfl rfl rfl ?_
      intro w9 hu9
      (repeat first|refine zo rfl rfl trivial ?_|refine zn ?_|refine zr ?_)
      exact ⟨_, bad rfl rfl hu9.blk, rfl, k08.since (hu9.kp [b8] (.inl (by simp))) (by simpa using hb8)⟩
    have hle : ¬ (fu : Int) < ans.2 := by have : g.fuel = fu := rfl; omega
    rw [if_neg hle]
    have hH8 := hM8.hdr
    have hH8 : Blk w8 mp [ptr og.p, .map (some w5'.heap.size), I ans.2, I fu] 114 := hH8
    have hsort : ∃ o : Int, answerO t.op.toNat = o := ⟨_, rfl⟩
    obtain ⟨sort, hsort⟩ := hsort
    (repeat first|refine zA ?_|refine zB ?_|refine zg ?_|refine zo rfl rfl trivial ?_|refine zn ?_|refine zk ?_|refine zf rfl ?_)
    refine r_seq ?_
    refine r_cut (α := Nat) [8, 10, 13, 14, 16] (fun r => [ptr b8, ptr tp, ptr mp, I ans.1, ptr r]) (fun r W => Blk W r (repC ⟨sort, 0, false, ans.2⟩) 45 ∧ Kp [] w8 W ∧ w8.heap.size ≤ r) ?_ ?_
    · refine r_mix (fun w' => Kp [] w8 w') [(0, false), (1, false), (2, false), (3, false), (4, false), (5, false), (6, false), (7, false), (8, false), (9, false), (10, true), (11, true)] follows_mixed (by kernel_rfl) (by kernel_rfl) (by kernel_rfl) ((Sm.drew w8).kp []) ?_
      have sd := (Sm.drew w8).kp []
      generalize ({ w8 with drawn := w8.drawn + 1 } : World) = wd at sd ⊢
      have yd := sd.size
      (repeat refine xo rfl rfl trivial ?_)
      refine x_load (v := I sort) rfl rfl (fun w' h' => by rw [← hsort]; exact (h'.blk (by simp) hB8).cell rfl) rfl rfl rfl rfl ?_
      (repeat refine xo rfl rfl trivial ?_)
      refine x_load rfl rfl (fun w' h' => (h'.blk (by simp) hH8).cell rfl) rfl rfl rfl rfl ?_
      refine x_build (repC ⟨sort, 0, false, ans.2⟩) rfl rfl rfl rfl rfl rfl rfl rfl ?_
      refine x_act rfl ?_
      refine o_alloc rfl rfl rfl rfl ?_
      intro r w9 hr hu9
      have k9 : Kp [] wd w9 := hu9.kp [] (.inr (by omega))
      refine o_nil ⟨.inr (sd.trans k9), ?_⟩
      refine x_act rfl ?_
      refine o_storeA (b := r) (cs := repC ⟨sort, 0, false, ans.2⟩) rfl hu9.blk (Nat.le_refl _) rfl (by simp [Value.oneCell', repC]) rfl rfl rfl rfl ?_
      intro w10 hu10
      have k10 : Kp [] wd w10 := k9.since (hu10.kp [r] (.inl (by simp))) (by simp; omega)
      refine o_nil ⟨.inr (sd.trans k10), ?_⟩
      (repeat refine xn ?_)
      exact ⟨r, rfl, hu10.blk, sd.trans k10, by omega⟩
    rintro r e9 w9 ⟨hr9, k9, hrl⟩
    have hB9 := k9.blk (by simp) hB8
    have h89 := k9.blk (by simp) h88
    have k09 := k08.trans k9
    have y8 := k08.size
    have hr8 : r ≠ b8 := by have := h88.lt; omega
    (repeat first|refine zA ?_|refine zB ?_|refine zg ?_|refine zo rfl rfl trivial ?_)
    refine o_load (v := I sort) rfl hB9 (by rw [← hsort]; rfl) rfl rfl rfl rfl ?_
    (repeat first|refine zo rfl rfl trivial ?_|refine zn ?_)
    refine r_cut (α := Unit) [8, 16] (fun _ => [ptr b8, ptr r]) (fun _ W => Blk W r (repC (if sort = 2 then ⟨2, 0, decide (ans.1 = 1), ans.2⟩ else ⟨sort, ans.1, false, ans.2⟩)) 45 ∧ Kp [r] w9 W) ?_ ?_
    · refine r_if rfl (fun h2 => ?_) (fun h2 => ?_)
      · rw [if_pos h2]
        subst h2
        (repeat first|refine zg ?_|refine zo rfl rfl trivial ?_)
        refine o_store (b := r) (off := 2) (v := .bool (decide (ans.1 = 1))) rfl hr9 (by simp [repC]) rfl rfl rfl rfl rfl rfl ?_
        intro w10 hu10
        (repeat refine zn ?_)
        exact ⟨(), rfl, hu10.blk, hu10.kp _ (.inl (by simp))⟩
      · rw [if_neg h2]
        (repeat first|refine zg ?_|refine zo rfl rfl trivial ?_)
        refine o_store (b := r) (off := 1) (v := I ans.1) rfl hr9 (by simp [repC]) rfl rfl rfl rfl rfl rfl ?_
        intro w10 hu10
        (repeat refine zn ?_)
        exact ⟨(), rfl, hu10.blk, hu10.kp _ (.inl (by simp))⟩
    rintro _ e10 w10 ⟨hr10, k10⟩
    have h810 := k10.blk (by simpa using hr8.symm) h89
    have k010 := k09.since k10 (by simp; omega)
    rw [hsort]
    have hfin : (if sort = 2 then ((⟨2, 0, decide (ans.1 = 1), ans.2⟩ : Rep), (0 : Int)) else (⟨sort, ans.1, false, ans.2⟩, 0)) = ((if sort = 2 then ⟨2, 0, decide (ans.1 = 1), ans.2⟩ else ⟨sort, ans.1, false, ans.2⟩), 0) := by split <;> rfl
    rw [hfin]
    generalize (if sort = 2 then (⟨2, 0, decide (ans.1 = 1), ans.2⟩ : Rep) else ⟨sort, ans.1, false, ans.2⟩) = rp at hr10 ⊢
    (repeat first|refine zA ?_|refine zg ?_)
    refine o_loadA (vs := repC rp) rfl (fun j v hv => by rw [Nat.zero_add]; exact hr10.cell hv) rfl rfl rfl rfl rfl rfl ?_
    refine o_storeA (b := b8) (cs := repC rp) rfl h810 (Nat.le_refl _) rfl (by simp [Value.oneCell', repC]) rfl rfl rfl rfl ?_
    intro w11 hu11
    (repeat first|refine zo rfl rfl trivial ?_|refine zn ?_|refine zr ?_)
    exact ⟨_, bad rfl rfl hu11.blk, rfl, k010.since (hu11.kp [b8] (.inl (by simp))) (by simpa using hb8)⟩
end Go.Vc
/- Query: no refusal has the number 0, in plain Lean (no program in sight). -/
namespace Go.Vc
open Go
def noZ {α : Type} (r : Except (Int × Int) α) : Prop := ∀ c i, r = .error (c, i) → c ≠ 0
theorem noZ_ok {α : Type} {a : α} : noZ (.ok a : Except (Int × Int) α) := fun _ _ h => by cases h
theorem noZ_err {α : Type} {c i : Int} (h : c ≠ 0) : noZ (.error (c, i) : Except (Int × Int) α) := fun _ _ e => by cases e; exact h
theorem noZ_bind {α β : Type} {x : Except (Int × Int) α} {f : α → Except (Int × Int) β} (h : noZ x) (hf : ∀ a, x = .ok a → noZ (f a)) : noZ (x >>= f) := by
  cases x with
  | error e => intro c i he; obtain ⟨c', i'⟩ := e; cases he; exact h _ _ rfl
  | ok a => exact hf a rfl
theorem noZ_adv (s : TS) : noZ (adv s) := by
  unfold adv
  split
  · exact noZ_err (by decide)
  · exact noZ_ok
  · exact noZ_ok
theorem noZ_must (s : TS) (w : List UInt8) : noZ (mustT s w) := by
  unfold mustT
  split
  · exact noZ_adv s
  · exact noZ_err (by decide)
theorem rd_noZ : ∀ n : Nat, (∀ lvl s, lvl ≤ 5 → 10 * s.len + 7 ≤ n + lvl → noZ (rd n lvl s)) ∧ (∀ lvl t s, lvl ≤ 4 → 10 * s.len + 1 ≤ n → noZ (rw n lvl t s)) ∧ (∀ op s, 1 ≤ s.len → 10 * s.len ≤ n → noZ (wd n op s))
  | 0 => ⟨fun _ _ h h2 => by omega, fun _ _ _ _ h => by omega, fun _ _ h h2 => by omega⟩
  | n + 1 => by
    obtain ⟨ih1, ih2, ih3⟩ := rd_noZ n
    have hrow : ∀ lvl s, (lvl = 0 ∨ lvl = 1 ∨ lvl = 3 ∨ lvl = 4) → 10 * s.len + 7 ≤ n + 1 + lvl → noZ (rd (n + 1) lvl s) := by
      intro lvl s hl hn
      have hsub : subLvl lvl = lvl + 1 := by rcases hl with rfl | rfl | rfl | rfl <;> rfl
      have e : rd (n + 1) lvl s = (rd n (subLvl lvl) s >>= fun x => rw n lvl x.1 x.2) := by
        rcases hl with rfl | rfl | rfl | rfl <;> rfl
      rw [e]
      refine noZ_bind (ih1 _ _ (by omega) (by rw [hsub]; omega)) (fun x hx => ?_)
      have := (rd_size n).1 _ _ _ _ hx
      have := x.1.size_pos
      exact ih2 _ _ _ (by omega) (by omega)
    refine ⟨fun lvl s hl hn => ?_, fun lvl t s hl hn => ?_, fun op s hs hn => ?_⟩
    · have h6 : lvl = 0 ∨ lvl = 1 ∨ lvl = 2 ∨ lvl = 3 ∨ lvl = 4 ∨ lvl = 5 := by omega
      rcases h6 with rfl | rfl | rfl | rfl | rfl | rfl
      · exact hrow 0 s (by simp) hn
      · exact hrow 1 s (by simp) hn
      · rw [rd2]
        split
        · rename_i h0
          have h00 := is_len h0
          refine noZ_bind (noZ_adv s) (fun s1 h1 => ?_)
          have := (adv_len h1).1
          exact noZ_bind (ih1 _ _ (by omega) (by omega)) (fun _ _ => noZ_ok)
        · refine noZ_bind (ih1 _ _ (by omega) (by omega)) (fun x hx => ?_)
          have h1 := (rd_size n).1 _ _ _ _ hx
          split
          · rename_i op hop
            have := cmpOp_len hop
            refine noZ_bind (noZ_adv _) (fun s1 h2 => ?_)
            have := (adv_len h2).1
            exact noZ_bind (ih1 _ _ (by omega) (by omega)) (fun _ _ => noZ_ok)
          · exact noZ_ok
      · exact hrow 3 s (by simp) hn
      · exact hrow 4 s (by simp) hn
      · cases s with
        | stop j => exact noZ_err (by decide)
        | bad j => exact noZ_err (by decide)
        | tok t r =>
          have hl1 : (TS.tok t r).len = r.len + 1 := rfl
          rw [rd5]
          split
          · exact noZ_bind (noZ_adv _) (fun _ _ => noZ_ok)
          · split
            · refine noZ_bind (noZ_adv _) (fun s1 h1 => ?_)
              have := (adv_len h1).1
              exact noZ_bind (ih1 _ _ (by omega) (by omega)) (fun _ _ => noZ_ok)
            · split
              · refine noZ_bind (noZ_adv _) (fun s1 h1 => ?_)
                have := (adv_len h1).1
                exact noZ_bind (ih1 _ _ (by omega) (by omega)) (fun _ _ => noZ_bind (noZ_must _ _) (fun _ _ => noZ_ok))
              · split
                · exact noZ_bind (noZ_adv _) (fun _ _ => noZ_ok)
                · split
                  · exact ih3 _ _ (by omega) (by omega)
                  · split
                    · exact noZ_bind (noZ_adv _) (fun _ _ => noZ_ok)
                    · exact noZ_err (by decide)
    · have e : rw (n + 1) lvl t s = (match rowOp lvl s with | none => .ok (t, s) | some op => adv s >>= fun s => rd n (subLvl lvl) s >>= fun x => rw n lvl (.n2 op 0 [] t x.1) x.2) := by
        rw [rw]; rfl
      rw [e]
      split
      · exact noZ_ok
      · rename_i op hop
        have h00 := rowOp_len hop
        have hsl : subLvl lvl ≤ 5 := by unfold subLvl; split <;> omega
        refine noZ_bind (noZ_adv s) (fun s1 h1 => ?_)
        have := (adv_len h1).1
        refine noZ_bind (ih1 _ _ hsl (by omega)) (fun x hx => ?_)
        have := (rd_size n).1 _ _ _ _ hx
        have := x.1.size_pos
        exact ih2 _ _ _ hl (by omega)
    · have e : wd (n + 1) op s = (if op = 3 then (adv s >>= fun s => .ok (.n0 3 0 [], s)) else if bindsO op then (adv s >>= fun s => match s with
          | .tok t r => if 0 ≤ t.num ∨ qName t.text = false then .error (301, t.at_) else (adv (.tok t r) >>= fun s => mustT s [58] >>= fun s => rd n 0 s >>= fun x => .ok (.n1 op 0 t.text x.1, x.2))
          | s => .error (301, s.pos))
        else if callO op then (adv s >>= fun s => mustT s [40] >>= fun s => rd n 0 s >>= fun x => if kidsO op = 1 then (mustT x.2 [41] >>= fun s => .ok (.n1 op 0 [] x.1, s)) else (mustT x.2 [44] >>= fun s => rd n 0 s >>= fun y => mustT y.2 [41] >>= fun s => .ok (.n2 op 0 [] x.1 y.1, s)))
        else .error (301, s.pos)) := by
        rw [wd]; rfl
      rw [e]
      split
      · exact noZ_bind (noZ_adv s) (fun _ _ => noZ_ok)
      · split
        · refine noZ_bind (noZ_adv s) (fun s1 h1 => ?_)
          have := (adv_len h1).1
          cases s1 with
          | stop j => exact noZ_err (by decide)
          | bad j => exact noZ_err (by decide)
          | tok t r =>
            dsimp only
            split
            · exact noZ_err (by decide)
            · refine noZ_bind (noZ_adv _) (fun s2 h2 => noZ_bind (noZ_must _ _) (fun s3 h3 => ?_))
              have := (adv_len h2).1
              have := mustT_len h3
              exact noZ_bind (ih1 _ _ (by omega) (by omega)) (fun _ _ => noZ_ok)
        · split
          · refine noZ_bind (noZ_adv s) (fun s1 h1 => noZ_bind (noZ_must _ _) (fun s2 h2 => ?_))
            have := (adv_len h1).1
            have := mustT_len h2
            refine noZ_bind (ih1 _ _ (by omega) (by omega)) (fun x hx => ?_)
            have := (rd_size n).1 _ _ _ _ hx
            split
            · exact noZ_bind (noZ_must _ _) (fun _ _ => noZ_ok)
            · refine noZ_bind (noZ_must _ _) (fun s3 h3 => ?_)
              have := mustT_len h3
              exact noZ_bind (ih1 _ _ (by omega) (by omega)) (fun _ _ => noZ_bind (noZ_must _ _) (fun _ _ => noZ_ok))
          · exact noZ_err (by decide)
theorem parse_err {txt : List UInt8} {c i : Int} (h : parseM txt = .error (c, i)) : c ≠ 0 := by
  revert c i
  show noZ (parseM txt)
  have hlen := lex_len (txt := txt) txt.length 0 (by omega) (by omega)
  unfold parseM
  split
  · exact noZ_err (by decide)
  · split
    · exact noZ_err (by decide)
    · refine noZ_bind ((rd_noZ _).1 0 _ (by omega) (by omega)) (fun x hx => ?_)
      dsimp only
      split
      · exact noZ_err (by decide)
      · split
        · exact noZ_err (by decide)
        · exact noZ_ok
end Go.Vc
