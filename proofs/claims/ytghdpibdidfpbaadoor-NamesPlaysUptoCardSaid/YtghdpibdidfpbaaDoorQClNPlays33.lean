/- NamesPlays: a step. -/
import Derived.Test.YtghdpibdidfpbaaDoorQClNPlays32
namespace Go.Vc
open Go Go.Proofs
set_option maxRecDepth 10000
variable {w w0 : World} {g : DG}
theorem nameV_form (l : List Str) (n : Int) : ∃ x b, nameV l n = .tuple #[S x, .bool b] := by
  unfold nameV
  split
  · exact ⟨_, _, rfl⟩
  · exact ⟨_, _, rfl⟩
theorem FrV.form {o : Option (List Str)} {base : Str} {v : Value} (h : FrV o base v) : ∃ x e, v = .tuple #[S x, I e] := by
  cases o with
  | none => exact ⟨_, _, h⟩
  | some l =>
    unfold FrV at h
    dsimp only at h
    split at h
    · obtain ⟨k, hk, _⟩ := h; exact ⟨_, _, hk⟩
    · exact ⟨_, _, h⟩
/-- what a step leaves -/
def SpTo (w0 w' : World) (g : DG) : Prop := Kp [] w0 w' ∧ ∃ g', DS w0 w' g' ∧ g'.eqs ∧ g'.W = g.W ∧ g'.es.length ≤ g.es.length + 1
theorem SpTo.stay {w' : World} (h : DS w0 w g) (hk0 : Kp [] w0 w) (heq : g.eqs) (hk : Kp [] w w') : SpTo w0 w' g := ⟨hk0.trans hk, g, h.kp0 hk, heq, rfl, by omega⟩
theorem SpTo.of {w' : World} (h : DTo w0 w' g) : SpTo w0 w' g := by
  obtain ⟨hk, v', f', o', hd, he⟩ := h
  exact ⟨hk, _, hd, he, rfl, Nat.le_succ _⟩
/-- a list answered by both is kept -/
theorem keeps_both {w1 w2 w3 : World} (h : DS w0 w1 g) (hk0 : Kp [] w0 w1) (heq : g.eqs) {ak aw : Option Addr} {ck cw : Nat} {xs : List Nat} (h1 : NewS w1 3 w2 ak xs.length ck (xs.map encJ)) (h2 : NewS w2 3 w3 aw xs.length cw (xs.map encJ)) (hcnt : g.es.length ≤ 1048576) (hxs : xs.length ≤ 131072) {w4 : World} (k34 : Kp [] w3 w4) :
    Ret Tryd.prog 30 [ptr g.W, .slice ak xs.length ck, .slice aw xs.length cw] w4 (fun v w' => v = .bool true ∧ SpTo w0 w' g ∧ Kp (g.W :: (blkOf g.aK ++ blkOf g.aW)) w4 w') := by
  have s12 := h1.kp.size
  have s23 := h2.kp.size
  have k14 := (h1.kp.trans h2.kp).trans k34
  have h4 := h.kp0 k14
  have hsz := h.size
  refine Ret.mono (keeps_ret (e := ⟨ak, ck, aw, cw, xs⟩) h4 ((h1.own.kp h2.kp (by simp)).kp k34 (by simp)) (h2.own.kp k34 (by simp)) (fun b hb => ⟨by have := h1.new b hb; omega, fun i hm => by have := h1.new b hb; have := h.lt i b hm; omega⟩)
    (fun b hb => ⟨by have := h2.new b hb; omega, fun i hm => by have := h2.new b hb; have := h.lt i b hm; omega, fun hm => by have := h2.new b hb; have := h1.own.lt b hm; omega⟩) (by omega) (by show xs.length ≤ _; omega)) ?_
  rintro v w' ⟨rfl, hkk, aK, cK, aW, cW, hd⟩
  refine ⟨rfl, ⟨(hk0.trans k14).since hkk (fun b hb => ?_), _, hd, heq, rfl, by simp⟩, hkk⟩
  simp only [List.mem_cons, List.mem_append] at hb
  rcases hb with rfl | hb | hb
  · exact h.low .d _ (by simp [DG.F])
  · exact h.low .kr b hb
  · exact h.low .wr b hb
set_option maxHeartbeats 12800000 in
theorem step_ret (hP0 : PowW w0) (h : DS w0 w g) (hk0 : Kp [] w0 w) (heq : g.eqs) {s : StG} (hs : StOk w0 s) (hcnt : g.es.length ≤ 1048576) :
    Ret Tryd.prog 16 [ptr g.W, .agg ⟨stC s⟩] w (fun v w' => v = .bool true ∧ SpTo w0 w' g) := by
  have hsz := h.size
  have hOn := hs.on
  have hKi := hs.kind
  have hNi := hs.N
  have hLv := hs.leave
  have hnm := hs.name
  unfold inI at hOn hKi hNi hLv
  refine enter Tryd.call16 Tryd.func16 rfl rfl rfl rfl ?_
  (repeat first|refine zA ?_|refine zg ?_)
  refine o_box rfl rfl rfl ?_
  intro b3 w1 hb3 hu1
  have s1 := hu1.size; have t1 := hu1.lt
  have k1 : Kp [] w w1 := hu1.kp [] (.inr (by omega))
  have hB1 : Blk w1 b3 (stC s) 58 := hu1.blk
  have h1 := h.kp0 k1
  have k01 := hk0.trans k1
  obtain ⟨n, hn, hnO⟩ : ∃ m : Nat, m < 2 ∧ (s.on.tmod 2 + 2).tmod 2 = (m : Int) := by
    have h1 := tmod_rng s.on 2 (by decide)
    have h2 := tmod_nn (s.on.tmod 2 + 2) 2 (by omega) (by decide)
    exact ⟨((s.on.tmod 2 + 2).tmod 2).toNat, by omega, by omega⟩
  have htr := tmod_rng s.on 2 (by decide)
  obtain ⟨po, hpo⟩ := (h.to hn).ptr
  obtain ⟨pr, hpr⟩ := (h.tr hn).ptr
  have hge := heq.at_ hn
  have hTo := h1.to hn
  have hTr := h1.tr hn
  have hP1 := hP0.kp k01 (by simp)
  (repeat first|refine zA ?_|refine zg ?_|refine zo rfl rfl trivial ?_|refine zn ?_)
  refine o_load rfl hB1 rfl rfl rfl rfl rfl ?_
  (repeat first|refine zA ?_|refine zg ?_|refine zo rfl rfl (by first|exact trivial|(simp only[AllP];omega)) ?_|refine zn ?_)
  rw [hnO]
  refine o_loadc (v := g.v n) rfl (by show w1.cell? ⟨g.W, 0 + (n : Int).toNat, none⟩ = _; rw [show 0 + (n : Int).toNat = n by omega]; exact h1.own_cell hn) rfl rfl rfl rfl ?_
  rw [hpo]
  (repeat first|refine zA ?_|refine zg ?_|refine zo rfl rfl (by first|exact trivial|(simp only[AllP];omega)) ?_|refine zn ?_)
  refine o_loadc (v := g.v (2 + n)) rfl (by show w1.cell? ⟨g.W, 0 + (1 + 1) + (n : Int).toNat, none⟩ = _; rw [show 0 + (1 + 1) + (n : Int).toNat = 2 + n by omega]; exact h1.ref_cell hn) rfl rfl rfl rfl ?_
  rw [hpr]
  (repeat first|refine zA ?_|refine zB ?_|refine zg ?_|refine zo rfl rfl trivial ?_|refine zn ?_)
  refine o_load rfl hB1 rfl rfl rfl rfl rfl ?_
  rw [hpo] at hTo
  rw [hpr] at hTr
  (repeat first|refine zA ?_|refine zg ?_|refine zo rfl rfl trivial ?_|refine zn ?_|refine zb ?_)
  refine r_if rfl (fun hc => ?_) (fun hc0 => ?_)
  · -- Add
    (repeat first|refine zA ?_|refine zg ?_|refine zo rfl rfl trivial ?_)
    refine o_load rfl hB1 rfl rfl rfl rfl rfl ?_
    refine o_call (hpo ▸ addO_ret h1 hn s.name hnm) rfl rfl rfl ?_
    rintro v w2 ⟨rfl, k12, fp1, h2, hn2⟩
    have lowf : ∀ k, k < 4 → ∀ b, b ∈ g.f k → w0.heap.size ≤ b ∧ b < w.heap.size := fun k hk b hb => ⟨h.low (.t k) b (by rw [DG.Ft hk]; exact hb), h.lt (.t k) b (by rw [DG.Ft hk]; exact hb)⟩
    have hB2 := k12.blk (fun hb => by have := (lowf n (by omega) b3 hb).2; omega) hB1
    generalize hg1 : ({ g with f := setN g.f n fp1, o := setN g.o n (addLo (g.o n) s.name) } : DG) = g1 at h2
    have e1v : g1.v = g.v := by rw [← hg1]
    have e1f : g1.f (2 + n) = g.f (2 + n) := by rw [← hg1]; exact setN_ne (by omega)
    have e1o : g1.o (2 + n) = g.o n := by rw [← hg1, hge]; exact setN_ne (by omega)
    (repeat first|refine zA ?_|refine zg ?_|refine zo rfl rfl trivial ?_|refine zn ?_)
    refine o_load rfl hB2 rfl rfl rfl rfl rfl ?_
    refine o_call (show Ret Tryd.prog _ [.pointer pr, S s.name] w2 _ from hpr ▸ e1v ▸ addR_ret h2 hn s.name hnm) rfl rfl rfl ?_
    rintro v w3 ⟨rfl, k23, fp2, h3, _⟩
    rw [e1f] at k23
    rw [e1o]
    have k03 : Kp [] w0 w3 := (k01.since k12 (fun b hb => (lowf n (by omega) b hb).1)).since k23 (fun b hb => (lowf (2 + n) (by omega) b hb).1)
    (repeat first|refine zA ?_|refine zg ?_|refine zo rfl rfl trivial ?_|refine zn ?_)
    refine o_is true _ _ rfl rfl rfl (by simp) ?_
    (repeat refine zo rfl rfl trivial ?_)
    refine o_call (num_ret _ _) rfl rfl rfl ?_
    rintro v w3' ⟨rfl, rfl⟩
    (repeat first|refine zo rfl rfl trivial ?_|refine zn ?_|refine zr ?_)
    refine ⟨_, rfl, by simp, k03, _, h3, ?_, ?_, ?_⟩
    · rw [e1o, ← hg1]
      exact eqs_set heq hn
    · rw [← hg1]
    · rw [← hg1]; exact Nat.le_succ _
  · (repeat first|refine zA ?_|refine zg ?_|refine zo rfl rfl trivial ?_|refine zn ?_)
    refine r_if rfl (fun hc => ?_) (fun hc1 => ?_)
    · -- Find
      (repeat first|refine zA ?_|refine zg ?_|refine zo rfl rfl trivial ?_)
      refine o_load rfl hB1 rfl rfl rfl rfl rfl ?_
      refine o_call (findO_ret hTo s.name) rfl rfl rfl ?_
      rintro v w2 ⟨rfl, rfl⟩
      unfold findV
      (repeat first|refine zA ?_|refine zg ?_|refine zo rfl rfl trivial ?_|refine zn ?_)
      refine o_load rfl hB1 rfl rfl rfl rfl rfl ?_
      refine o_call (findR_ret hTr s.name) rfl rfl rfl ?_
      rintro v w2 ⟨rfl, rfl⟩
      rw [← hge]
      unfold findV
      (repeat first|refine zA ?_|refine zg ?_|refine zo rfl rfl trivial ?_|refine zn ?_)
      refine o_is true _ _ rfl rfl rfl (by simp) ?_
      (repeat first|refine zo rfl rfl trivial ?_|refine zn ?_|refine zr ?_)
      exact ⟨_, rfl, by simp, SpTo.stay h hk0 heq k1⟩
    · (repeat first|refine zA ?_|refine zg ?_|refine zo rfl rfl trivial ?_|refine zn ?_)
      refine r_if rfl (fun hc => ?_) (fun hc2 => ?_)
      · -- Name
        obtain ⟨xn, bn, hnv⟩ := nameV_form (lo (g.o n)) s.N
        (repeat first|refine zA ?_|refine zg ?_|refine zo rfl rfl trivial ?_)
        refine o_load rfl hB1 rfl rfl rfl rfl rfl ?_
        refine o_call (nameO_ret hTo s.N) rfl rfl rfl ?_
        rintro v w2 ⟨rfl, rfl⟩
        rw [hnv]
        (repeat first|refine zA ?_|refine zg ?_|refine zo rfl rfl trivial ?_|refine zn ?_)
        refine o_load rfl hB1 rfl rfl rfl rfl rfl ?_
        refine o_call (nameR_ret hTr s.N) rfl rfl rfl ?_
        rintro v w2 ⟨rfl, rfl⟩
        rw [← hge, hnv]
        (repeat first|refine zA ?_|refine zg ?_|refine zo rfl rfl trivial ?_|refine zn ?_)
        refine o_is true _ _ rfl rfl rfl (by simp) ?_
        (repeat refine zo rfl rfl trivial ?_)
        refine o_is true _ _ rfl rfl rfl (by simp) ?_
        (repeat refine zo rfl rfl trivial ?_)
        refine o_call (lenO_ret hTo) rfl rfl rfl ?_
        rintro v w2 ⟨rfl, rfl⟩
        (repeat refine zo rfl rfl trivial ?_)
        refine o_call (namesR_ret hTr) rfl rfl rfl ?_
        rintro v w3 ⟨adN, capN, rfl, hN⟩
        rw [← hge]
        (repeat first|refine zo rfl rfl trivial ?_|refine zn ?_|refine zr ?_)
        exact ⟨_, rfl, by simp, SpTo.stay h hk0 heq (k1.trans hN.kp)⟩
      · (repeat first|refine zA ?_|refine zg ?_|refine zo rfl rfl trivial ?_|refine zn ?_)
        refine r_if rfl (fun hc => ?_) (fun hc3 => ?_)
        · -- All
          (repeat first|refine zA ?_|refine zg ?_|refine zo rfl rfl trivial ?_)
          refine o_load rfl hB1 rfl rfl rfl rfl rfl ?_
          refine o_call (walk_ret h1 k01 heq hn hLv) rfl rfl rfl ?_
          rintro v w2 ⟨rfl, k02, f', o', hd, he⟩
          (repeat first|refine zo rfl rfl trivial ?_|refine zn ?_|refine zr ?_)
          exact ⟨_, rfl, rfl, k02, _, hd, he, rfl, Nat.le_succ _⟩
        · (repeat first|refine zA ?_|refine zg ?_|refine zo rfl rfl trivial ?_|refine zn ?_)
          refine r_if rfl (fun hc => ?_) (fun hc4 => ?_)
          · -- Sorted
            (repeat first|refine zA ?_|refine zg ?_|refine zo rfl rfl trivial ?_)
            refine o_call (sortedO_ret hTo) rfl rfl rfl ?_
            rintro v w2 ⟨ak, ck, xs, rfl, hN1, hp1, hs1⟩
            have hTr2 := hTr.kp hN1.kp (by simp)
            (repeat refine zo rfl rfl trivial ?_)
            refine o_call (sortedR_ret hTr2) rfl rfl rfl ?_
            rintro v w3 ⟨aw, cw, ys, rfl, hN2, hp2, hs2⟩
            rw [← hge] at hp2 hs2
            have hxy : ys = xs := by
              cases ho : g.o n with
              | none =>
                rw [ho] at hp1 hp2
                have h1 : xs = [] := by simpa [lo] using hp1
                have h2 : ys = [] := by simpa [lo] using hp2
                rw [h1, h2]
              | some l =>
                rw [ho] at hp1 hp2 hs1 hs2
                exact sorted_one (h.nd n (by omega) l ho) hp2 hp1 hs2 hs1
            subst hxy
            have hxl : ys.length ≤ 131072 := by
              have := hTo.few
              rw [hp1.length_eq, List.length_range]; exact this
            refine o_call (keeps_both h1 k01 heq hN1 hN2 hcnt hxl (Kp.refl _ _)) rfl rfl rfl ?_
            rintro v w4 ⟨rfl, hsp, _⟩
            (repeat first|refine zo rfl rfl trivial ?_|refine zn ?_|refine zr ?_)
            exact ⟨_, rfl, rfl, hsp⟩
          · (repeat first|refine zA ?_|refine zg ?_|refine zo rfl rfl trivial ?_|refine zn ?_)
            refine r_if rfl (fun hc => ?_) (fun hc5 => ?_)
            · -- Near
              refine r_seq ?_
              refine r_mix (fun W' => Blk W' b3 (stC s) 58) [(0, false), (1, false), (2, false), (3, false), (4, false), (5, false), (7, false), (8, false), (9, false), (10, false), (11, false), (6, true), (12, true), (13, true), (14, false)] follows_mixed (by kernel_rfl) (by kernel_rfl) (by kernel_rfl) (((Sm.drew w1).kp []).blk (by simp) hB1) ?_
              have kd := (Sm.drew w1).kp []
              generalize ({ w1 with drawn := w1.drawn + 1 } : World) = wd at kd ⊢
              (repeat refine xo rfl rfl trivial ?_)
              refine x_load (b := b3) (off := 2) (v := S s.name) rfl rfl (fun W' h' => Blk.cell h' rfl) rfl rfl rfl rfl ?_
              (repeat refine xo rfl rfl trivial ?_)
              refine x_load (b := b3) (off := 3) (v := I s.N) rfl rfl (fun W' h' => Blk.cell h' rfl) rfl rfl rfl rfl ?_
              (repeat refine xo rfl rfl trivial ?_)
              refine x_load (b := b3) (off := 2) (v := S s.name) rfl rfl (fun W' h' => Blk.cell h' rfl) rfl rfl rfl rfl ?_
              (repeat refine xo rfl rfl trivial ?_)
              refine x_load (b := b3) (off := 3) (v := I s.N) rfl rfl (fun W' h' => Blk.cell h' rfl) rfl rfl rfl rfl ?_
              refine x_act rfl ?_
              refine o_call (nearO_ret (hTo.kp kd (by simp)) s.name s.N hNi) rfl rfl rfl ?_
              rintro v w2 ⟨ak, ck, xs, rfl, hN1, hp1, hs1⟩
              have hTr2 := (hTr.kp kd (by simp)).kp hN1.kp (by simp)
              have hBd := kd.blk (by simp) hB1
              have hBd2 := hN1.kp.blk (by simp) hBd
              refine o_nil ⟨.inr hBd2, ?_⟩
              refine x_act rfl ?_
              refine o_call (nearR_ret hTr2 s.name s.N hNi) rfl rfl rfl ?_
              rintro v w3 ⟨aw, cw, ys, rfl, hN2, hp2, hs2⟩
              rw [← hge] at hp2 hs2
              obtain rfl : ys = xs := Srt.unique hs2 hs1 (hp2.trans hp1.symm)
              have hxl : ys.length ≤ 131072 := by
                have h1 := hTo.few
                have h2 := nrOut_le s.name s.N (nums (lo (g.o n)))
                rw [nums_length] at h2
                rw [hp1.length_eq]
                unfold nearOf
                omega
              have hBd3 := hN2.kp.blk (by simp) hBd2
              refine o_nil ⟨.inr hBd3, ?_⟩
              refine x_act rfl ?_
              refine o_call (keeps_both (h1.kp0 kd) (k01.trans kd) heq hN1 hN2 hcnt hxl (Kp.refl _ _)) rfl rfl rfl ?_
              rintro v w4 ⟨rfl, hsp, hkk⟩
              refine o_nil ⟨.inr (hkk.blk (fun hb => ?_) hBd3), ?_⟩
              · simp only [List.mem_cons, List.mem_append] at hb
                have hb' : ∃ i, b3 ∈ g.F i := by
                  rcases hb with hb | hb | hb
                  · exact ⟨.d, by simp [DG.F, hb]⟩
                  · exact ⟨.kr, hb⟩
                  · exact ⟨.wr, hb⟩
                obtain ⟨i, hi⟩ := hb'
                have := h.lt i b3 hi
                omega
              (repeat first|refine xo rfl rfl trivial ?_|refine xn ?_)
              (repeat refine zr ?_)
              exact ⟨_, rfl, rfl, hsp⟩
            · (repeat first|refine zA ?_|refine zg ?_|refine zo rfl rfl trivial ?_|refine zn ?_)
              refine r_if rfl (fun hc => ?_) (fun hc6 => ?_)
              · -- Closest
                (repeat first|refine zA ?_|refine zg ?_|refine zo rfl rfl trivial ?_)
                refine o_load rfl hB1 rfl rfl rfl rfl rfl ?_
                (repeat refine zo rfl rfl trivial ?_)
                refine o_load rfl hB1 rfl rfl rfl rfl rfl ?_
                refine o_call (closestO_ret hTo s.name s.least) rfl rfl rfl ?_
                rintro v w2 ⟨rfl, k12⟩
                have hTr2 := hTr.kp k12 (by simp)
                have hB2 := k12.blk (by simp) hB1
                (repeat first|refine zA ?_|refine zg ?_|refine zo rfl rfl trivial ?_|refine zn ?_)
                refine o_load rfl hB2 rfl rfl rfl rfl rfl ?_
                (repeat refine zo rfl rfl trivial ?_)
                refine o_load rfl hB2 rfl rfl rfl rfl rfl ?_
                refine o_call (closestR_ret hTr2 s.name s.least) rfl rfl rfl ?_
                rintro v w3 ⟨rfl, k23⟩
                rw [← hge]
                (repeat first|refine zA ?_|refine zg ?_|refine zo rfl rfl trivial ?_|refine zn ?_)
                refine o_is true _ _ rfl rfl rfl (by simp) ?_
                (repeat first|refine zo rfl rfl trivial ?_|refine zn ?_|refine zr ?_)
                exact ⟨_, rfl, by simp, SpTo.stay h hk0 heq ((k1.trans k12).trans k23)⟩
              · (repeat first|refine zA ?_|refine zg ?_|refine zo rfl rfl trivial ?_|refine zn ?_)
                refine r_if rfl (fun hc => ?_) (fun hc7 => ?_)
                · -- Fresh
                  (repeat first|refine zA ?_|refine zg ?_|refine zo rfl rfl trivial ?_)
                  refine o_load rfl hB1 rfl rfl rfl rfl rfl ?_
                  refine o_call (freshO_ret hP1 hTo s.name hnm) rfl rfl rfl ?_
                  rintro v w2 ⟨hv1, k12⟩
                  obtain ⟨x1, e1, rfl⟩ := hv1.form
                  have hTr2 := hTr.kp k12 (by simp)
                  have hB2 := k12.blk (by simp) hB1
                  (repeat first|refine zA ?_|refine zg ?_|refine zo rfl rfl trivial ?_|refine zn ?_)
                  refine o_load rfl hB2 rfl rfl rfl rfl rfl ?_
                  refine o_call (freshR_ret (hP1.kp k12 (by simp)) hTr2 s.name hnm) rfl rfl rfl ?_
                  rintro v w3 ⟨hv2, k23⟩
                  rw [← hge] at hv2
                  obtain rfl := hv2.one hv1
                  (repeat first|refine zA ?_|refine zg ?_|refine zo rfl rfl trivial ?_|refine zn ?_)
                  refine o_is true _ _ rfl rfl rfl (by simp) ?_
                  (repeat refine zo rfl rfl trivial ?_)
                  refine o_call (num_ret _ _) rfl rfl rfl ?_
                  rintro v w3' ⟨rfl, rfl⟩
                  (repeat first|refine zo rfl rfl trivial ?_|refine zn ?_|refine zr ?_)
                  exact ⟨_, rfl, by simp, SpTo.stay h hk0 heq ((k1.trans k12).trans k23)⟩
                · -- others
                  (repeat first|refine zA ?_|refine zg ?_|refine zo rfl rfl trivial ?_|refine zk ?_)
                  refine o_load rfl hB1 rfl rfl rfl rfl rfl ?_
                  (repeat refine zo rfl rfl trivial ?_)
                  refine o_split _ _ rfl rfl rfl (fun hl => ?_) (fun hl => ?_)
                  · (repeat first|refine zo rfl rfl trivial ?_|refine zn ?_|refine zr ?_|refine zT rfl rfl rfl ?_)
                    exact ⟨_, rfl, rfl, SpTo.stay h hk0 heq k1⟩
                  · (repeat refine zo rfl rfl trivial ?_)
                    refine o_load rfl hB1 rfl rfl rfl rfl rfl ?_
                    (repeat refine zo rfl rfl trivial ?_)
                    refine o_split _ _ rfl rfl rfl (fun hl2 => ?_) (fun hl2 => ?_)
                    · (repeat first|refine zo rfl rfl trivial ?_|refine zn ?_|refine zr ?_)
                      exact ⟨_, rfl, rfl, SpTo.stay h hk0 heq k1⟩
                    · (repeat refine zo rfl rfl trivial ?_)
                      refine o_loadA (vs := stC s) rfl (fun j v hv => by rw [Nat.zero_add]; exact hB1.cell hv) rfl rfl rfl rfl rfl rfl ?_
                      refine o_call (makes_ret h1 k01 heq hn hs) rfl rfl rfl ?_
                      rintro v w2 ⟨rfl, hd⟩
                      (repeat first|refine zo rfl rfl trivial ?_|refine zn ?_|refine zr ?_)
                      exact ⟨_, rfl, rfl, SpTo.of hd⟩
end Go.Vc
