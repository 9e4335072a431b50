/- lockset: what is told. -/
import Derived.Test.YtkgjibhbhddckaaDoorQClKPlays23
import Derived.Test.YtkgjibhbhddckaaDoorQClKPlays17
namespace Go.Vc
open Go Go.Proofs
set_option maxRecDepth 10000
variable {w : World}
section
variable {g : KG} {s : Shp} {c : Ck}
/-- the variable there is, by its number -/
def varAt (g : KG) (n : Int) : Option VarG := if 0 ≤ n then g.vars[n.toNat]? else none
theorem kHeld_ret (h : KAt w g s c) (t : Int) : Ret Tryd.prog 28 [ptr g.kp, I t] w (fun v w' => ∃ ad' cap', v = .slice ad' (oL (g.H t)).length cap' ∧ NewS w 3 w' ad' (oL (g.H t)).length cap' ((oL (g.H t)).map encI)) := by
  refine enter Tryd.call28 Tryd.func28 rfl rfl rfl rfl ?_
  (repeat first|refine zA ?_|refine zB ?_|refine zg ?_|refine zo rfl rfl trivial ?_|refine zn ?_)
  refine o_call (kthere_ret h) rfl rfl rfl ?_
  rintro v wx ⟨rfl, rfl⟩
  (repeat first|refine zA ?_|refine zg ?_|refine zo rfl rfl trivial ?_|refine zn ?_|refine zk ?_|refine zf rfl ?_)
  refine o_load (v := .map (some g.mh)) rfl h.hdr rfl rfl rfl rfl rfl ?_
  (repeat refine zo rfl rfl trivial ?_)
  refine o_lookI (oV (g.H t)) rfl rfl h.mh (by unfold mapH; cases g.H t <;> rfl) rfl rfl rfl rfl rfl rfl ?_
  refine o_call (sList h.tab (h.held t)) rfl rfl rfl ?_
  rintro v w1 ⟨ad, cap, rfl, n1⟩
  (repeat first|refine zo rfl rfl trivial ?_|refine zn ?_|refine zr ?_)
  exact ⟨_, rfl, ad, cap, rfl, n1⟩
theorem kvariable_ret (h : KAt w g s c) (n : Int) : Ret Tryd.prog 38 [ptr g.kp, I n] w (fun v w' => v = .pointer ((varAt g n).bind fun _ => g.vad.map fun a => ⟨a.block, n.toNat * 6, none⟩) ∧ w' = w) := by
  have hnl : g.vars.length ≤ 4096 := by have := h.nv; have := h.ck.ok.sh.2.1; omega
  refine enter Tryd.call38 Tryd.func38 rfl rfl rfl rfl ?_
  (repeat first|refine zA ?_|refine zB ?_|refine zg ?_|refine zo rfl rfl trivial ?_|refine zn ?_)
  refine o_call (kthere_ret h) rfl rfl rfl ?_
  rintro v wx ⟨rfl, rfl⟩
  (repeat first|refine zo rfl rfl trivial ?_|refine zU rfl rfl rfl ?_)
  by_cases h0 : n < 0
  · refine o_is true 7 false rfl rfl rfl (by simp [h0]) ?_
    (repeat first|refine zA ?_|refine zg ?_|refine zo rfl rfl trivial ?_|refine zn ?_|refine zr ?_|refine zt rfl ?_)
    exact ⟨_, rfl, by simp [varAt, show ¬ 0 ≤ n by omega], rfl⟩
  refine o_is false 7 false rfl rfl rfl (by simp [h0]) ?_
  (repeat refine zo rfl rfl trivial ?_)
  refine o_load (v := .slice g.vad g.vars.length g.vcap) rfl h.hdr rfl rfl rfl rfl rfl ?_
  (repeat first|refine zo rfl rfl trivial ?_|refine zn ?_)
  refine r_if (p := (g.vars.length : Int) ≤ n) rfl (fun hc => ?_) (fun hc => ?_)
  · (repeat first|refine zA ?_|refine zg ?_|refine zo rfl rfl trivial ?_|refine zn ?_|refine zr ?_)
    exact ⟨_, rfl, by simp only [varAt, if_pos (show 0 ≤ n by omega)]; rw [List.getElem?_eq_none (by omega)]; rfl, rfl⟩
  · have hi : n.toNat < g.vars.length := by omega
    obtain ⟨x, hx⟩ : ∃ x, g.vars[n.toNat]? = some x := ⟨_, List.getElem?_eq_getElem hi⟩
    obtain ⟨vb, L, hvad, _, _, _, _⟩ := KAt.var_ (g := g) (x := x) (by rw [gv_same hx]; exact h) hi
    have hh := h.hdr
    rw [show kgC g = [ptr g.ck.p, .map (some g.mh), .slice (some ⟨vb, 0, none⟩) g.vars.length g.vcap] by rw [kgC, hvad]] at hh
    (repeat first|refine zA ?_|refine zg ?_|refine zo rfl rfl trivial ?_|refine zk ?_)
    refine o_load (v := .slice (some ⟨vb, 0, none⟩) g.vars.length g.vcap) rfl hh rfl rfl rfl rfl rfl ?_
    (repeat first|refine zo rfl rfl (by first|exact trivial|(simp only[AllP];omega)) ?_|refine zn ?_|refine zr ?_)
    refine ⟨_, rfl, ?_, rfl⟩
    simp only [varAt, if_pos (show 0 ≤ n by omega), hx, hvad, Option.bind_some, Option.map_some, Nat.zero_add]
theorem kKeeps_ret (h : KAt w g s c) (n : Int) : Ret Tryd.prog 10 [ptr g.kp, I n] w (fun v w' => ∃ ad cap, v = .tuple #[.slice ad (oL ((varAt g n).bind (·.kp))).length cap, .bool ((varAt g n).bind (·.kp)).isSome] ∧ NewS w 3 w' ad (oL ((varAt g n).bind (·.kp))).length cap ((oL ((varAt g n).bind (·.kp))).map encI)) := by
  refine enter Tryd.call10 Tryd.func10 rfl rfl rfl rfl ?_
  (repeat first|refine zA ?_|refine zg ?_|refine zo rfl rfl trivial ?_|refine zn ?_)
  refine o_call (kvariable_ret h n) rfl rfl rfl ?_
  rintro v wx ⟨rfl, rfl⟩
  cases hv : varAt g n with
  | none =>
    simp only [Option.bind_none]
    (repeat first|refine zA ?_|refine zB ?_|refine zg ?_|refine zo rfl rfl trivial ?_|refine zn ?_|refine zr ?_|refine zT rfl rfl rfl ?_|refine zt rfl ?_)
    exact ⟨_, rfl, none, 0, rfl, ⟨ownS_nil _ _ _, Kp.refl _ _, by simp [blkOf]⟩⟩
  | some x =>
    have hn0 : 0 ≤ n := by
      unfold varAt at hv
      by_cases h0 : 0 ≤ n
      · exact h0
      · rw [if_neg h0] at hv; cases hv
    have hx : g.vars[n.toNat]? = some x := by unfold varAt at hv; rwa [if_pos hn0] at hv
    have hi : n.toNat < g.vars.length := (List.getElem?_eq_some_iff.1 hx).1
    obtain ⟨vb, L, hvad, hL, hget, _, _⟩ := KAt.var_ (g := g) (x := x) (by rw [gv_same hx]; exact h) hi
    simp only [hvad, Option.bind_some, Option.map_some]
    (repeat first|refine zA ?_|refine zB ?_|refine zg ?_|refine zo rfl rfl trivial ?_|refine zn ?_|refine zU rfl rfl rfl ?_)
    refine o_load (b := vb) (off := n.toNat * 6 + 2) (v := oV x.kp) rfl hL (hget 2 (by omega)) rfl rfl rfl rfl ?_
    cases hk : x.kp with
    | none =>
      simp only [Option.map_none]
      (repeat first|refine zA ?_|refine zg ?_|refine zo rfl rfl trivial ?_|refine zn ?_|refine zr ?_|refine zt rfl ?_)
      exact ⟨_, rfl, none, 0, rfl, ⟨ownS_nil _ _ _, Kp.refl _ _, by simp [blkOf]⟩⟩
    | some y =>
      simp only [Option.map_some]
      (repeat first|refine zA ?_|refine zg ?_|refine zo rfl rfl trivial ?_|refine zn ?_|refine zk ?_|refine zf rfl ?_)
      refine o_load (b := vb) (off := n.toNat * 6 + 2) (v := ptr y.p) rfl hL (by rw [hget 2 (by omega)]; simp [varC, hk]) rfl rfl rfl rfl ?_
      have hok : OgOk wx (some y) := by
        have := h.keep n.toNat x hx
        rwa [hk] at this
      refine o_call (sList h.tab hok) rfl rfl rfl ?_
      rintro v w1 ⟨ad, cap, rfl, n1⟩
      (repeat first|refine zo rfl rfl trivial ?_|refine zn ?_|refine zr ?_)
      exact ⟨_, rfl, ad, cap, rfl, n1⟩
/-- a variable's view, told: its cells and its list -/
theorem kView_ret (h : KAt w g s c) (n : Int) : Ret Tryd.prog 11 [ptr g.kp, I n] w (fun v w' => ∃ ad cap, v = .tuple #[.agg ⟨[I (((varAt g n).map (·.ph)).getD 0), I (((varAt g n).map (·.th)).getD 0), .slice ad (oL ((varAt g n).bind (·.ca))).length cap]⟩, .bool (varAt g n).isSome] ∧ NewS w 3 w' ad (oL ((varAt g n).bind (·.ca))).length cap ((oL ((varAt g n).bind (·.ca))).map encI)) := by
  refine enterC Tryd.call11 Tryd.func11 rfl rfl rfl rfl ?_
  (repeat first|refine zA ?_|refine zg ?_)
  refine o_alloc rfl rfl rfl rfl ?_
  intro bv w1 hbv hu1
  have k1 : Kp [] w w1 := hu1.kp [] (.inr (by omega))
  have h1 := h.kp0 k1
  (repeat first|refine zA ?_|refine zg ?_|refine zo rfl rfl trivial ?_|refine zn ?_)
  refine o_call (kvariable_ret h1 n) rfl rfl rfl ?_
  rintro v wx ⟨rfl, rfl⟩
  cases hv : varAt g n with
  | none =>
    simp only [Option.bind_none]
    (repeat first|refine zA ?_|refine zB ?_|refine zg ?_|refine zo rfl rfl trivial ?_|refine zn ?_|refine zt rfl ?_)
    refine o_build [I 0, I 0, .slice none 0 0] rfl rfl rfl rfl rfl rfl rfl ?_
    refine o_storeA (cs := [I 0, I 0, .slice none 0 0]) rfl hu1.blk (Nat.le_refl _) rfl (by simp [Value.oneCell']) rfl rfl rfl rfl ?_
    intro w2 hu2
    have k2 : Kp [] w w2 := k1.since (hu2.kp [bv] (.inl (by simp))) (by simp; omega)
    have hB2 : Blk w2 bv [I 0, I 0, .slice none 0 0] 41 := hu2.blk
    (repeat first|refine zo rfl rfl trivial ?_|refine zn ?_|refine zr ?_)
    exact ⟨[.agg ⟨[I 0, I 0, .slice none 0 0]⟩, _], ⟨⟨_, rfl, run_loadB hB2 rfl rfl rfl rfl⟩, ⟨_, rfl⟩, trivial⟩, none, 0, rfl, ⟨ownS_nil _ _ _, k2, by simp [blkOf]⟩⟩
  | some x =>
    have hn0 : 0 ≤ n := by
      unfold varAt at hv
      by_cases h0 : 0 ≤ n
      · exact h0
      · rw [if_neg h0] at hv; cases hv
    have hx : g.vars[n.toNat]? = some x := by unfold varAt at hv; rwa [if_pos hn0] at hv
    have hi : n.toNat < g.vars.length := (List.getElem?_eq_some_iff.1 hx).1
    obtain ⟨vb, L, hvad, hL, hget, _, _⟩ := KAt.var_ (g := g) (x := x) (by rw [gv_same hx]; exact h1) hi
    simp only [hvad, Option.bind_some, Option.map_some]
    (repeat first|refine zA ?_|refine zB ?_|refine zg ?_|refine zo rfl rfl trivial ?_|refine zn ?_|refine zk ?_|refine zf rfl ?_)
    refine r_seq ?_
    refine r_mix (fun w' => Kp [] w w' ∧ Blk w' vb L 91) [(0, false), (1, false), (2, false), (3, false), (4, false), (5, false), (6, false), (7, false), (8, false), (9, false), (10, false), (11, false), (12, true), (13, false), (14, true), (15, false)] follows_mixed (by kernel_rfl) (by kernel_rfl) (by kernel_rfl) ⟨k1.trans ((Sm.drew wx).kp []), (Sm.drew wx).blk hL⟩ ?_
    have kd := k1.trans ((Sm.drew wx).kp [])
    have hLd := (Sm.drew wx).blk hL
    have hBd := (Sm.drew wx).blk hu1.blk
    have hd := h1.sm (Sm.drew wx)
    generalize ({ wx with drawn := wx.drawn + 1 } : World) = w2 at kd hLd hBd hd ⊢
    (repeat refine xo rfl rfl trivial ?_)
    refine x_load (b := vb) (off := n.toNat * 6) (v := I x.ph) rfl rfl (fun w' h' => h'.2.cell (hget 0 (by omega))) rfl rfl rfl rfl ?_
    (repeat refine xo rfl rfl trivial ?_)
    refine x_load (b := vb) (off := n.toNat * 6 + 1) (v := I x.th) rfl rfl (fun w' h' => h'.2.cell (hget 1 (by omega))) rfl rfl rfl rfl ?_
    (repeat refine xo rfl rfl trivial ?_)
    refine x_load (b := vb) (off := n.toNat * 6 + 3) (v := oV x.ca) rfl rfl (fun w' h' => h'.2.cell (hget 3 (by omega))) rfl rfl rfl rfl ?_
    refine x_act rfl ?_
    refine o_call (sList hd.tab (hd.cand n.toNat x hx)) rfl rfl rfl ?_
    rintro v w3 ⟨ad, cap, rfl, n3⟩
    refine o_nil ⟨.inr ⟨kd.trans n3.kp, n3.kp.blk (by simp) hLd⟩, ?_⟩
    refine x_build [I x.ph, I x.th, .slice ad (oL x.ca).length cap] rfl rfl rfl rfl rfl rfl rfl rfl ?_
    refine x_act rfl ?_
    have hB3 := n3.kp.blk (by simp) hBd
    refine o_storeA (cs := [I x.ph, I x.th, .slice ad (oL x.ca).length cap]) rfl hB3 (Nat.le_refl _) rfl (by simp [Value.oneCell']) rfl rfl rfl rfl ?_
    intro w4 hu4
    have k34 := hu4.kp [bv] (.inl (by simp))
    have kk := (kd.trans n3.kp).since k34 (by simp; omega)
    have hbv1 := hu1.lt
    have hlv := hL.lt
    have hB4 : Blk w4 bv [I x.ph, I x.th, .slice ad (oL x.ca).length cap] 41 := hu4.blk
    have hvb : vb ≠ bv := fun e => by
      have := h.lt .core vb (by simp only [KG.D, KG.core, List.mem_cons, List.mem_append]; refine .inr (.inr (.inr ?_)); rw [hvad]; simp [blkOf])
      omega
    refine o_nil ⟨.inr ⟨kk, k34.blk (by simpa using hvb) (n3.kp.blk (by simp) hLd)⟩, ?_⟩
    (repeat first|refine xo rfl rfl trivial ?_|refine xn ?_)
    (repeat refine zr ?_)
    have z2 := hBd.lt
    exact ⟨[.agg ⟨[I x.ph, I x.th, .slice ad (oL x.ca).length cap]⟩, _], ⟨⟨_, rfl, run_loadB hB4 rfl rfl rfl rfl⟩, ⟨_, rfl⟩, trivial⟩, ad, cap, rfl, ⟨n3.own.kp k34 (fun b hb => by have := n3.new b hb; simp; omega), kk, fun b hb => by have := n3.new b hb; have := kd.size; omega⟩⟩
abbrev flagC (x : Nat × Int) : List Value := [I x.1, I x.2]
def flagsC (l : List (Nat × Int)) : List Value := l.flatMap flagC
theorem flagsC_len (l : List (Nat × Int)) : (flagsC l).length = l.length * 2 := by
  induction l with
  | nil => rfl
  | cons x r ih => unfold flagsC at *; rw [List.flatMap_cons, List.length_append, ih]; simp [flagC]; omega
/-- which of the first so many are warned of -/
def warnedL (V : List LV) : List (Nat × Int) := (List.range V.length).filterMap fun i => match V[i]? with
  | some v => if v.wa then some (i, v.at_) else none
  | none => none
def warnedN (V : List LV) (k : Nat) : List (Nat × Int) := (List.range k).filterMap fun i => match V[i]? with
  | some v => if v.wa then some (i, v.at_) else none
  | none => none
theorem warnedN_succ (V : List LV) {k : Nat} {v : LV} (h : V[k]? = some v) : warnedN V (k + 1) = warnedN V k ++ (if v.wa then [(k, v.at_)] else []) := by
  unfold warnedN
  rw [List.range_succ, List.filterMap_append]
  congr 1
  simp only [List.filterMap_cons, List.filterMap_nil, h]
  cases v.wa <;> rfl
set_option maxHeartbeats 1600000 in
theorem kWarned_ret (h : KAt w g s c) : Ret Tryd.prog 13 [ptr g.kp] w (fun v w' => ∃ ad cap, v = .slice ad (warnedL (g.vars.map varM)).length cap ∧ OwnS w' 82 2 ad (warnedL (g.vars.map varM)).length cap (flagsC (warnedL (g.vars.map varM))) ∧ Kp [] w w' ∧ ∀ b, b ∈ blkOf ad → w.heap.size ≤ b) := by
  have hnl : g.vars.length ≤ 4096 := by have := h.nv; have := h.ck.ok.sh.2.1; omega
  refine enter Tryd.call13 Tryd.func13 rfl rfl rfl rfl ?_
  (repeat first|refine zA ?_|refine zB ?_|refine zg ?_|refine zo rfl rfl trivial ?_|refine zn ?_)
  refine o_call (kthere_ret h) rfl rfl rfl ?_
  rintro v wx ⟨rfl, rfl⟩
  (repeat first|refine zA ?_|refine zB ?_|refine zg ?_|refine zo rfl rfl trivial ?_|refine zn ?_|refine zk ?_|refine zf rfl ?_)
  refine o_load (v := .slice g.vad g.vars.length g.vcap) rfl h.hdr rfl rfl rfl rfl rfl ?_
  (repeat first|refine zo rfl rfl trivial ?_|refine zn ?_|refine zb ?_)
  refine r_loop (α := Nat × Option Addr × Nat) [3, 12, 13, 14] (fun x => [.slice x.2.1 (warnedN (g.vars.map varM) x.1).length x.2.2, .slice g.vad g.vars.length g.vcap, I g.vars.length, I x.1]) (fun x w1 => KAt w1 g s c ∧ Kp [] wx w1 ∧ OwnS w1 82 2 x.2.1 (warnedN (g.vars.map varM) x.1).length x.2.2 (flagsC (warnedN (g.vars.map varM) x.1)) ∧ (∀ b, b ∈ blkOf x.2.1 → wx.heap.size ≤ b) ∧ x.1 ≤ g.vars.length) (fun x => g.vars.length - x.1) (0, none, 0) rfl ⟨h, Kp.refl _ _, ownS_nil _ _ _, by simp [blkOf], by omega⟩ ?_
  rintro ⟨i, ad, cap⟩ e w1 ⟨h1, k1, ho, hnew, hi⟩
  dsimp only at ho hnew hi ⊢
  have hwl : (warnedN (g.vars.map varM) i).length ≤ i := by
    unfold warnedN
    exact Nat.le_trans (List.length_filterMap_le _ _) (by simp)
  (repeat first|refine zA ?_|refine zD ?_|refine zg ?_|refine zo rfl rfl trivial ?_|refine zn ?_)
  refine r_if rfl (fun hc => ?_) (fun hc => ?_)
  · have hlt : i < g.vars.length := by omega
    obtain ⟨x, hx⟩ : ∃ x, g.vars[i]? = some x := ⟨_, List.getElem?_eq_getElem hlt⟩
    obtain ⟨vb, L, hvad, hL, hget, hlen, _⟩ := KAt.var_ (g := g) (x := x) (by rw [gv_same hx]; exact h1) hlt
    have hm : (g.vars.map varM)[i]? = some (varM x) := by rw [List.getElem?_map, hx]; rfl
    have hsucc := warnedN_succ (g.vars.map varM) hm
    rw [hvad]
    (repeat first|refine zA ?_|refine zC ?_|refine zg ?_|refine zo rfl rfl (by first|exact trivial|(simp only[AllP];omega)) ?_|refine zb ?_|refine zk ?_)
    refine o_loadA (vs := varC x) rfl (fun j v hv => ?_) rfl rfl rfl rfl rfl rfl ?_
    · have hj : j < 6 := by have := (List.getElem?_eq_some_iff.1 hv).1; simpa using this
      rw [Int.toNat_natCast, Nat.zero_add]
      exact hL.cell (by rw [hget j hj]; exact hv)
    refine o_alloc rfl rfl rfl rfl ?_
    intro bv w2 hbv hu2
    (repeat refine zo rfl rfl trivial ?_)
    refine o_storeA (cs := varC x) rfl hu2.blk (Nat.le_refl _) rfl (by simp [Value.oneCell']) rfl rfl rfl rfl ?_
    intro w3 hu3
    have k3 : Kp [] w1 w3 := (hu2.kp [] (.inr (by omega))).since (hu3.kp [bv] (.inl (by simp))) (by simp; omega)
    have hB3 : Blk w3 bv (varC x) 91 := hu3.blk
    have h3 := h1.kp0 k3
    have ho3 := ho.kp k3 (by simp)
    (repeat first|refine zA ?_|refine zg ?_|refine zo rfl rfl trivial ?_|refine zn ?_)
    refine o_load (v := .bool x.wa) rfl hB3 rfl rfl rfl rfl rfl ?_
    (repeat refine zn ?_)
    cases hwa : x.wa with
    | false =>
      refine r_no rfl rfl ?_
      (repeat first|refine zg ?_|refine zo rfl rfl (by first|exact trivial|(simp only[AllP];omega)) ?_|refine zn ?_|refine zk ?_)
      have e1 : warnedN (g.vars.map varM) (i + 1) = warnedN (g.vars.map varM) i := by rw [hsucc]; simp [varM, hwa]
      refine ⟨(i + 1, ad, cap), by dsimp only; rw [e1]; rfl, ⟨h3, k1.trans k3, by dsimp only; rw [e1]; exact ho3, hnew, by dsimp only; omega⟩, by dsimp only; omega⟩
    | true =>
      refine r_yes rfl rfl ?_
      (repeat first|refine zg ?_|refine zo rfl rfl trivial ?_)
      refine o_load (v := I x.at_) rfl hB3 rfl rfl rfl rfl rfl ?_
      refine o_build [I (i : Int), I x.at_] rfl rfl rfl rfl rfl rfl rfl ?_
      refine o_buildSliceN [I (i : Int), I x.at_] rfl rfl rfl (by kernel_rfl) rfl rfl rfl rfl ?_
      intro b4 w4 hb4 hu4
      have k4 : Kp [] w3 w4 := hu4.kp [] (.inr (by omega))
      refine o_append [I (i : Int), I x.at_] rfl rfl (ho3.kp k4 (by simp)) (fun j v hv => by rw [addr_lit, Nat.zero_add]; exact hu4.blk.cell hv) rfl rfl rfl (by omega) rfl (by omega) (by simp [Value.oneCell']) (by simp only [maxLen]; omega) (by omega) rfl rfl ?_
      intro ad5 cap5 w5 ho5 k5 hnew5
      have z1 := k1.size
      have z3 := k3.size
      have z4 := k4.size
      have k15 : Kp [] wx w5 := ((k1.trans k3).trans k4).since k5 hnew
      (repeat first|refine zg ?_|refine zo rfl rfl (by first|exact trivial|(simp only[AllP];omega)) ?_|refine zn ?_)
      have e1 : warnedN (g.vars.map varM) (i + 1) = warnedN (g.vars.map varM) i ++ [(i, x.at_)] := by rw [hsucc]; simp [varM, hwa]
      refine ⟨(i + 1, ad5, cap5), by dsimp only; rw [e1, List.length_append]; rfl, ⟨h.kp0 k15, k15, ?_, fun b hb => ?_, by dsimp only; omega⟩, by dsimp only; omega⟩
      · dsimp only
        rw [e1, List.length_append]
        have e2 : flagsC (warnedN (g.vars.map varM) i ++ [(i, x.at_)]) = flagsC (warnedN (g.vars.map varM) i) ++ [I (i : Int), I x.at_] := by simp [flagsC, flagC]
        rw [e2]; exact ho5
      · dsimp only at hb
        rcases hnew5 b hb with h6 | h6
        · exact hnew b h6
        · omega
  · have hin : i = g.vars.length := by omega
    (repeat first|refine zA ?_|refine zg ?_|refine zo rfl rfl trivial ?_|refine zn ?_|refine ze rfl ?_|refine zr ?_)
    have e1 : warnedL (g.vars.map varM) = warnedN (g.vars.map varM) i := by unfold warnedL warnedN; rw [hin, List.length_map]
    rw [e1]
    exact ⟨_, rfl, ad, cap, rfl, ho, k1, hnew⟩
end
end Go.Vc
/- rows of events. -/
namespace Go.Vc
open Go Go.Proofs
def evsC (l : List Ev) : List Value := l.flatMap evC
theorem evsC_len (l : List Ev) : (evsC l).length = l.length * 3 := by
  induction l with
  | nil => rfl
  | cons x r ih => unfold evsC at *; rw [List.flatMap_cons, List.length_append, ih]; simp [evC]; omega
theorem evsC_get : ∀ {l : List Ev} {i : Nat} {x : Ev}, l[i]? = some x → ∀ j v, (evC x)[j]? = some v → (evsC l)[i * 3 + j]? = some v
  | [], i, x, h, _, _, _ => by simp at h
  | y :: r, 0, x, h, j, v, hv => by
    simp at h; subst h
    have e1 : evsC (y :: r) = evC y ++ evsC r := by simp [evsC]
    rw [e1, Nat.zero_mul, Nat.zero_add, List.getElem?_append_left ((List.getElem?_eq_some_iff.1 hv).1)]
    exact hv
  | y :: r, i + 1, x, h, j, v, hv => by
    have ih := evsC_get (l := r) (i := i) (x := x) (by simpa using h) j v hv
    have e1 : evsC (y :: r) = evC y ++ evsC r := by simp [evsC]
    have l3 : (evC y).length = 3 := rfl
    rw [e1, List.getElem?_append_right (by omega)]
    have e2 : (i + 1) * 3 + j - (evC y).length = i * 3 + j := by omega
    rw [e2]; exact ih
end Go.Vc
/- lockset: Events; lives. -/
namespace Go.Vc
open Go Go.Proofs
set_option maxRecDepth 10000
variable {w : World}
section
variable {g : KG} {s : Shp} {c : Ck}
/-- the state of a keeper, plainly -/
structure LS where
  c : Ck
  H : Int → List Nat
  V : List LV
def LS.VOk (S : LS) : Prop := ∀ v ∈ S.V, Go.Vc.VOk v
def stepL (S : LS) (e : Ev) (s : Shp) : LS := ⟨nextC s S.c e, eventH S.H e, eventV S.V (S.H e.t) e S.c.n⟩
theorem accL_ok {v : LV} {e : Ev} {h : List Nat} {a : Int} (hv : Go.Vc.VOk v) : Go.Vc.VOk (accL v e h a) := by
  have hw : ∀ u : LV, Go.Vc.VOk u → Go.Vc.VOk (warnL u a) := fun u hu => by unfold warnL; split <;> exact hu
  have hs : ∀ u : LV, (u.ph = 2 ∨ u.ph = 3) → u.ca.isSome = true → Go.Vc.VOk (sharedL u e h a) := fun u h1 h2 => by
    unfold sharedL
    apply hw
    refine .inr (.inr ⟨?_, by simpa using h2⟩)
    dsimp only
    split
    · exact .inr rfl
    · exact h1
  unfold accL
  dsimp only
  split
  · exact .inr (.inl rfl)
  · split
    · split
      · exact hv
      · exact hs _ (.inl rfl) rfl
    · rename_i h0 h1
      rcases hv with q | q | ⟨q1, q2⟩
      · exact absurd q h0
      · exact absurd q h1
      · exact hs _ q1 q2
theorem stepL_ok {S : LS} {e : Ev} {s : Shp} (h : S.VOk) : (stepL S e s).VOk := by
  intro v hv
  simp only [stepL, eventV] at hv
  split at hv
  · split at hv
    · rename_i u hu
      rcases List.mem_or_eq_of_mem_set hv with hv | rfl
      · exact h v hv
      · exact accL_ok (h u (List.mem_of_getElem? hu))
    · exact h v hv
  · exact h v hv
structure KS (w : World) (g : KG) (s : Shp) (S : LS) : Prop where
  at_ : KAt w g s S.c
  H : ∀ t, oL (g.H t) = S.H t
  V : g.vars.map varM = S.V
theorem KS.kp0 {S : LS} (h : KS w g s S) {w' : World} (hk : Kp [] w w') : KS w' g s S := ⟨h.at_.kp0 hk, h.H, h.V⟩
theorem Event_S {S : LS} (h : KS w g s S) (hv : S.VOk) (hn : S.c.n ≤ 4611686018427387904) (e : Ev) :
    Ret Tryd.prog 9 [ptr g.kp, .agg ⟨evC e⟩] w (fun v w' => (canB s S.c e = true ∧ v = I 0 ∧ ∃ g', KS w' g' s (stepL S e s) ∧ KTo w g w' g') ∨ (canB s S.c e = false ∧ v = I 6 ∧ Kp [] w w')) := by
  refine (kEvent_ret h.at_ hn (fun x hx => hv _ (by rw [← h.V]; exact List.mem_map.2 ⟨x, hx, rfl⟩)) e).mono fun v w' hh => ?_
  rcases hh with ⟨h1, h2, g', h3, h4, h5, h6⟩ | hh
  · refine .inl ⟨h1, h2, g', ⟨h3, fun t => ?_, ?_⟩, h4⟩
    · rw [h5]
      have : (fun t => oL (g.H t)) = S.H := funext h.H
      rw [this]; rfl
    · rw [h6, h.V, h.H]; rfl
  · exact .inr hh
/-- behind so many events -/
def runN (s : Shp) (S : LS) (l : List Ev) (i : Nat) : LS := (l.take i).foldl (fun S e => stepL S e s) S
theorem runN_succ {s : Shp} {S : LS} {l : List Ev} {i : Nat} {e : Ev} (h : l[i]? = some e) : runN s S l (i + 1) = stepL (runN s S l i) e s := by
  unfold runN
  rw [List.take_add_one, h, List.foldl_append]; rfl
theorem runN_n {s : Shp} {S : LS} {l : List Ev} : ∀ i, i ≤ l.length → (runN s S l i).c.n = S.c.n + i
  | 0, _ => rfl
  | i + 1, h => by
    obtain ⟨e, he⟩ : ∃ e, l[i]? = some e := ⟨_, List.getElem?_eq_getElem (by omega)⟩
    rw [runN_succ he]
    have := runN_n (s := s) (S := S) (l := l) i (by omega)
    show (nextC s (runN s S l i).c e).n = _
    rw [nextC_n, this]; omega
theorem runN_ok {s : Shp} {S : LS} {l : List Ev} (h : S.VOk) : ∀ i, i ≤ l.length → (runN s S l i).VOk
  | 0, _ => h
  | i + 1, hi => by
    obtain ⟨e, he⟩ : ∃ e, l[i]? = some e := ⟨_, List.getElem?_eq_getElem (by omega)⟩
    rw [runN_succ he]
    exact stepL_ok (runN_ok h i (by omega))
set_option maxHeartbeats 1600000 in
theorem Events_S {S : LS} (h : KS w g s S) (hv : S.VOk) (hn : S.c.n ≤ 2305843009213693952) {ad : Option Addr} {l : List Ev} {cap : Nat} (hr : ReadS w ad (evsC l)) (hin : ∀ b, b ∈ blkOf ad → ¬ g.In b) (hl : l.length ≤ 1048576) :
    Ret Tryd.prog 17 [ptr g.kp, .slice ad l.length cap] w (fun v w' => ∃ k g', k ≤ l.length ∧ v = .tuple #[I k, I (if k = l.length then 0 else 6)] ∧ KS w' g' s (runN s S l k) ∧ KTo w g w' g' ∧ (∀ j e, j < k → l[j]? = some e → canB s (runN s S l j).c e = true) ∧ ∀ e, l[k]? = some e → canB s (runN s S l k).c e = false) := by
  refine enter Tryd.call17 Tryd.func17 rfl rfl rfl rfl ?_
  (repeat first|refine zA ?_|refine zB ?_|refine zg ?_|refine zo rfl rfl trivial ?_|refine zn ?_)
  refine o_call (kthere_ret h.at_) rfl rfl rfl ?_
  rintro v wx ⟨rfl, rfl⟩
  (repeat first|refine zA ?_|refine zB ?_|refine zg ?_|refine zo rfl rfl trivial ?_|refine zn ?_|refine zb ?_|refine zk ?_|refine zf rfl ?_)
  refine r_loop (α := Nat) [0, 1, 12, 13, 14] (fun i => [ptr g.kp, .slice ad l.length cap, .slice ad l.length cap, I l.length, I i]) (fun i w1 => (∃ g', KS w1 g' s (runN s S l i) ∧ KTo wx g w1 g') ∧ i ≤ l.length ∧ (∀ j e, j < i → l[j]? = some e → canB s (runN s S l j).c e = true)) (fun i => l.length - i) 0 rfl ⟨⟨g, h, KTo.refl _ _⟩, by omega, fun j e hj => by omega⟩ ?_
  rintro i e w1 ⟨⟨g1, h1, t1⟩, hi, hok⟩
  (repeat first|refine zA ?_|refine zD ?_|refine zg ?_|refine zo rfl rfl trivial ?_|refine zn ?_)
  refine r_if rfl (fun hc => ?_) (fun hc => ?_)
  · have hlt : i < l.length := by omega
    obtain ⟨x, hx⟩ : ∃ x, l[i]? = some x := ⟨_, List.getElem?_eq_getElem hlt⟩
    obtain ⟨b, off, rfl, hb, hcell⟩ := hr.at_ (by rw [evsC_len]; omega)
    have hkeep := t1.kq.at_ b hb (hin b (by simp [blkOf]))
    (repeat first|refine zA ?_|refine zC ?_|refine zg ?_|refine zo rfl rfl (by first|exact trivial|(simp only[AllP];omega)) ?_|refine zb ?_|refine zk ?_)
    refine o_loadA (vs := evC x) rfl (fun j v hv => ?_) rfl rfl rfl rfl rfl rfl ?_
    · have h2 := hcell _ _ (evsC_get hx j v hv)
      rw [Int.toNat_natCast, Nat.add_assoc, ← h2]
      exact World.cell?_of_block hkeep
    refine o_alloc rfl rfl rfl rfl ?_
    intro be w2 hbe hu2
    (repeat refine zo rfl rfl trivial ?_)
    refine o_storeA (cs := evC x) rfl hu2.blk (Nat.le_refl _) rfl (by simp [Value.oneCell']) rfl rfl rfl rfl ?_
    intro w3 hu3
    have k3 : Kp [] w1 w3 := (hu2.kp [] (.inr (by omega))).since (hu3.kp [be] (.inl (by simp))) (by simp; omega)
    have hB3 : Blk w3 be (evC x) 35 := hu3.blk
    (repeat first|refine zA ?_|refine zg ?_|refine zo rfl rfl trivial ?_|refine zn ?_)
    refine o_loadA (vs := evC x) rfl (fun j v hv => by rw [Nat.zero_add]; exact hB3.cell hv) rfl rfl rfl rfl rfl rfl ?_
    have h3 := h1.kp0 k3
    have hn3 := runN_n (s := s) (S := S) (l := l) i hi
    have ek : ptr g.kp = ptr g1.kp := by rw [t1.kp]
    refine o_call (vs := [ptr g1.kp, .agg ⟨evC x⟩]) (Event_S h3 (runN_ok hv i hi) (by omega) x) (by rw [← ek]; rfl) rfl rfl ?_
    rintro v w4 (⟨hcan, rfl, g4, h4, t4⟩ | ⟨hcan, rfl, k4⟩)
    · (repeat first|refine zA ?_|refine zg ?_|refine zo rfl rfl (by first|exact trivial|(simp only[AllP];omega)) ?_|refine zn ?_|refine zk ?_|refine zf rfl ?_)
      refine ⟨i + 1, rfl, ⟨⟨g4, by rw [runN_succ hx]; exact h4, (t1.trans (KTo.of0 k3)).trans t4⟩, by omega, fun j e hj he => ?_⟩, by omega⟩
      by_cases hji : j = i
      · subst hji; rw [hx] at he; cases he; exact hcan
      · exact hok j e (by omega) he
    · (repeat first|refine zA ?_|refine zg ?_|refine zo rfl rfl trivial ?_|refine zn ?_|refine zr ?_|refine zt rfl ?_)
      refine ⟨_, rfl, i, g1, hi, by rw [if_neg (by omega)], h3.kp0 k4, (t1.trans (KTo.of0 k3)).trans (KTo.of0 k4), hok, fun e he => ?_⟩
      rw [hx] at he; cases he; exact hcan
  · have hin2 : i = l.length := by omega
    (repeat first|refine zA ?_|refine zg ?_|refine zo rfl rfl trivial ?_|refine zn ?_|refine ze rfl ?_|refine zr ?_)
    exact ⟨_, rfl, i, g1, hi, by rw [if_pos hin2, hin2], h1, t1, hok, fun e he => by rw [List.getElem?_eq_none (by omega)] at he; cases he⟩
end
end Go.Vc
