/- (*lockset.Keeper).Copy: a copy on its way, as a ghost. -/
import Derived.Test.YtkgjibhbhddckaaDoorQClKPlays35
import Derived.Test.YtkgjibhbhddckaaDoorQClKPlays40
namespace Go.Vc
open Go Go.Proofs
set_option maxRecDepth 10000
variable {w : World}
theorem sCopyO (hT : TabW w) {o : Option SG} (h : OgOk w o) : Ret Tryd.prog 51 [oV o] w (fun v w' => ∃ o', v = oV o' ∧ OgOk w' o' ∧ o'.map SG.l = o.map SG.l ∧ Kp [] w w' ∧ ∀ b, b ∈ oF o' → w.heap.size ≤ b) := by
  cases o with
  | none => exact Copy_nil.mono fun v w' ⟨h1, h2⟩ => ⟨none, h1, OgOk.none, rfl, by rw [h2]; exact Kp.refl _ _, by simp [oF]⟩
  | some x => exact (sCopy hT (h x rfl)).mono fun v w' ⟨x', h1, h2, h3, h4, h5⟩ => ⟨some x', h1, (fun y hy => by cases hy; exact h2), by simp [h3], h4, h5⟩
/-- a copy on its way: of the sets that are held, and of the variables, some are copied -/
structure PC (w W : World) (g gg : KG) (s : Shp) (c : Ck) : Prop where
  kw : Kp [] w W
  hdr : Blk W gg.kp [ptr gg.ck.p, .map (some gg.mh), .slice gg.vad g.vars.length gg.vcap] 73
  ck : CkAt W gg.ck s c
  pad : gg.ck.pad = g.ck.pad
  mh : MapI W gg.mh (mapH gg.H)
  vs : OwnS W 91 6 gg.vad g.vars.length gg.vcap (varsC (gg.vars ++ g.vars.drop gg.vars.length))
  nv : gg.vars.length ≤ g.vars.length
  held : ∀ t, OgOk W (gg.H t)
  keep : ∀ (v : Nat) (x : VarG), gg.vars[v]? = some x → OgOk W x.kp
  cand : ∀ (v : Nat) (x : VarG), gg.vars[v]? = some x → OgOk W x.ca
  nd : gg.core.Nodup
  sep : ∀ i j b, i ≠ j → b ∈ gg.D i → b ∉ gg.D j
  new : ∀ i b, b ∈ gg.D i → (i = .core ∧ b ∈ blkOf g.ck.pad) ∨ w.heap.size ≤ b
  rH : ∀ t y, gg.H t = some y → ∃ x, g.H t = some x ∧ y.l = x.l
  rV : gg.vars.map varM = (g.vars.take gg.vars.length).map varM
section
variable {W : World} {g gg : KG} {s : Shp} {c : Ck}
theorem PC.lt (h : PC w W g gg s c) : ∀ i b, b ∈ gg.D i → b < W.heap.size := by
  intro i b hb
  cases i with
  | core =>
    simp only [KG.D, KG.core, List.mem_cons, List.mem_append] at hb
    rcases hb with rfl | rfl | hb | hb
    · exact h.hdr.lt
    · exact h.mh.lt
    · exact h.ck.toCkM.lt b hb
    · exact h.vs.lt b hb
  | held t => exact (h.held t).lt b hb
  | keep v =>
    simp only [KG.D] at hb
    cases hx : gg.vars[v]? with
    | none => rw [hx] at hb; simp at hb
    | some x => rw [hx] at hb; exact (h.keep v x hx).lt b hb
  | cand v =>
    simp only [KG.D] at hb
    cases hx : gg.vars[v]? with
    | none => rw [hx] at hb; simp at hb
    | some x => rw [hx] at hb; exact (h.cand v x hx).lt b hb
theorem PC.padOld (h0 : KAt w g s c) {b : Nat} (hb : b ∈ blkOf g.ck.pad) : b < w.heap.size := h0.lt .core b (h0.padC hb).1
/-- the world turns elsewhere -/
theorem PC.kp (h : PC w W g gg s c) (h0 : KAt w g s c) {W' : World} {S : List Nat} (hk : Kp S W W') (hS : ∀ i b, b ∈ gg.D i → b ∉ S) (hw : ∀ b, b ∈ S → w.heap.size ≤ b) : PC w W' g gg s c where
  kw := h.kw.since hk hw
  hdr := hk.blk (hS .core _ (by simp [KG.D, KG.core])) h.hdr
  ck := h.ck.kp hk (fun b hb => hS .core b (by simp [KG.D, KG.core, hb]))
  pad := h.pad
  mh := h.mh.kp hk (hS .core _ (by simp [KG.D, KG.core]))
  vs := h.vs.kp hk (fun b hb => hS .core b (by simp [KG.D, KG.core, hb]))
  nv := h.nv
  held t := (h.held t).kp hk (fun b hb => hS (.held t) b hb)
  keep v x hx := (h.keep v x hx).kp hk (fun b hb => hS (.keep v) b (by simp only [KG.D, hx]; exact hb))
  cand v x hx := (h.cand v x hx).kp hk (fun b hb => hS (.cand v) b (by simp only [KG.D, hx]; exact hb))
  nd := h.nd
  sep := h.sep
  new := h.new
  rH := h.rH
  rV := h.rV
theorem PC.kp0 (h : PC w W g gg s c) (h0 : KAt w g s c) {W' : World} (hk : Kp [] W W') : PC w W' g gg s c := h.kp h0 hk (by simp) (by simp)
/-- one more set is held in the copy -/
theorem PC.addH (h : PC w W g gg s c) (h0 : KAt w g s c) {W1 W2 : World} {t : Int} {x x' : SG} (k1 : Kp [] W W1) (hx : SgOk W1 x') (hn : ∀ b, b ∈ x'.F → W.heap.size ≤ b) (k2 : Kp [gg.mh] W1 W2)
    (hm : MapI W2 gg.mh (mapH (upT gg.H t (some x')))) (ht : g.H t = some x) (hl : x'.l = x.l) : PC w W2 g { gg with H := upT gg.H t (some x') } s c := by
  have h1 := h.kp0 h0 k1
  have hlt := h.lt
  have hsz := h.kw.size
  have hmc : gg.mh ∈ gg.D .core := by simp [KG.D, KG.core]
  have hmw : w.heap.size ≤ gg.mh := by
    rcases h.new .core _ hmc with ⟨_, q⟩ | q
    · exfalso
      have hF : gg.mh ∈ gg.ck.F := by simp [CkG.F, h.pad, q]
      have hnd := h.nd
      simp only [KG.core, List.nodup_cons, List.mem_cons, List.mem_append, not_or] at hnd
      exact hnd.2.1.1 hF
    · exact q
  have hnd := h.nd
  have ninc : ∀ b, b ∈ gg.kp :: (gg.ck.F ++ blkOf gg.vad) → b ∉ [gg.mh] := fun b hb hb2 => by
    have e : b = gg.mh := by simpa using hb2
    subst e
    simp only [KG.core, List.nodup_cons, List.mem_cons, List.mem_append, not_or] at hnd
    simp only [List.mem_cons, List.mem_append] at hb
    rcases hb with hb | hb | hb
    · exact hnd.1.1 hb.symm
    · exact hnd.2.1.1 hb
    · exact hnd.2.1.2 hb
  have nin : ∀ i, i ≠ .core → ∀ b, b ∈ gg.D i → b ∉ [gg.mh] := fun i hi b hb hb2 => by
    have e : b = gg.mh := by simpa using hb2
    subst e
    exact h.sep i .core _ hi hb hmc
  have hx2 : SgOk W2 x' := hx.kp k2 (fun b hb hb2 => by have := hn b hb; have := hlt .core _ hmc; simp at hb2; omega)
  have hD : ∀ i, i ≠ .held t → ({ gg with H := upT gg.H t (some x') } : KG).D i = gg.D i := by
    intro i hi
    cases i with
    | core => rfl
    | keep v => rfl
    | cand v => rfl
    | held u =>
      have hu : u ≠ t := fun e => hi (by rw [e])
      simp only [KG.D, upT, if_neg hu]
  have hDt : ({ gg with H := upT gg.H t (some x') } : KG).D (.held t) = x'.F := by simp [KG.D, upT, oF]
  refine ⟨(h.kw.trans k1).since k2 (fun b hb => by simp at hb; omega), k2.blk (ninc _ (by simp)) h1.hdr, h1.ck.kp k2 (fun b hb => ninc b (by simp [hb])), h.pad, hm, h1.vs.kp k2 (fun b hb => ninc b (by simp [hb])), h.nv, fun u => ?_, fun v y hv => ?_, fun v y hv => ?_, h.nd, fun i j b hij hb hb2 => ?_, fun i b hb => ?_, fun u y hy => ?_, h.rV⟩
  · by_cases hu : u = t
    · subst hu
      intro y hy
      simp only [upT, if_true, Option.some.injEq] at hy
      subst hy; exact hx2
    · intro y hy
      simp only [upT, if_neg hu] at hy
      exact ((h1.held u).kp k2 (fun b hb => nin (.held u) (by simp) b hb)) y hy
  · exact (h1.keep v y hv).kp k2 (fun b hb => nin (.keep v) (by simp) b (by simp only [KG.D, hv]; exact hb))
  · exact (h1.cand v y hv).kp k2 (fun b hb => nin (.cand v) (by simp) b (by simp only [KG.D, hv]; exact hb))
  · by_cases hi : i = .held t
    · subst hi
      rw [hDt] at hb
      rw [hD j (fun e => hij e.symm)] at hb2
      have := hn b hb; have := hlt j b hb2; omega
    · rw [hD i hi] at hb
      by_cases hj : j = .held t
      · subst hj
        rw [hDt] at hb2
        have := hn b hb2; have := hlt i b hb; omega
      · rw [hD j hj] at hb2; exact h.sep i j b hij hb hb2
  · by_cases hi : i = .held t
    · subst hi
      rw [hDt] at hb
      exact .inr (by have := hn b hb; omega)
    · rw [hD i hi] at hb; exact h.new i b hb
  · dsimp only at hy
    unfold upT at hy
    by_cases hu : u = t
    · subst hu
      rw [if_pos rfl] at hy
      have hy := Option.some.inj hy
      subst hy
      exact ⟨x, ht, hl⟩
    · rw [if_neg hu] at hy; exact h.rH u y hy
/-- one more variable is copied -/
theorem PC.addV (h : PC w W g gg s c) (h0 : KAt w g s c) {W1 W2 W3 : World} {x : VarG} {o1 o2 : Option SG} (hx : g.vars[gg.vars.length]? = some x) (k1 : Kp [] W W1) (ho1 : OgOk W1 o1) (hn1 : ∀ b, b ∈ oF o1 → W.heap.size ≤ b) (hl1 : o1.map SG.l = x.kp.map SG.l)
    (k2 : Kp [] W1 W2) (ho2 : OgOk W2 o2) (hn2 : ∀ b, b ∈ oF o2 → W1.heap.size ≤ b) (hl2 : o2.map SG.l = x.ca.map SG.l) (k3 : Kp (blkOf gg.vad) W2 W3)
    (hv3 : OwnS W3 91 6 gg.vad g.vars.length gg.vcap (varsC (gg.vars ++ ({ x with kp := o1, ca := o2 } : VarG) :: g.vars.drop (gg.vars.length + 1)))) : PC w W3 g { gg with vars := gg.vars ++ [{ x with kp := o1, ca := o2 }] } s c := by
  have h2 := (h.kp0 h0 k1).kp0 h0 k2
  have hlt := h.lt
  have hsz := h.kw.size
  have z1 := k1.size
  have hlen : gg.vars.length < g.vars.length := (List.getElem?_eq_some_iff.1 hx).1
  have hvc : ∀ b, b ∈ blkOf gg.vad → b ∈ gg.D .core := fun b hb => by simp [KG.D, KG.core, hb]
  have hnd := h.nd
  simp only [KG.core, List.nodup_cons, List.mem_cons, List.mem_append, not_or, List.nodup_append] at hnd
  have hvw : ∀ b, b ∈ blkOf gg.vad → w.heap.size ≤ b := fun b hb => by
    rcases h.new .core _ (hvc b hb) with ⟨_, q⟩ | q
    · exfalso
      have hF : b ∈ gg.ck.F := by simp [CkG.F, h.pad, q]
      exact hnd.2.2.2.2 b hF b hb rfl
    · exact q
  have nin : ∀ i, i ≠ .core → ∀ b, b ∈ gg.D i → b ∉ blkOf gg.vad := fun i hi b hb hb2 => h.sep i .core _ hi hb (hvc b hb2)
  have hget : ∀ (v : Nat) y, (gg.vars ++ [({ x with kp := o1, ca := o2 } : VarG)])[v]? = some y → (gg.vars[v]? = some y) ∨ (v = gg.vars.length ∧ y = { x with kp := o1, ca := o2 }) := fun v y hy => by
    by_cases q : v < gg.vars.length
    · rw [List.getElem?_append_left q] at hy; exact .inl hy
    · rw [List.getElem?_append_right (by omega)] at hy
      have q2 : v - gg.vars.length = 0 := by
        rcases Nat.eq_zero_or_pos (v - gg.vars.length) with e | e
        · exact e
        · rw [List.getElem?_eq_none (by simp; omega)] at hy; cases hy
      rw [q2] at hy
      simp at hy
      exact .inr ⟨by omega, hy.symm⟩
  -- every block of the new ghost: an old one, or one of the two new sets
  have hD : ∀ i b, b ∈ ({ gg with vars := gg.vars ++ [{ x with kp := o1, ca := o2 }] } : KG).D i → b ∈ gg.D i ∨ (i = .keep gg.vars.length ∧ b ∈ oF o1) ∨ (i = .cand gg.vars.length ∧ b ∈ oF o2) := by
    intro i b hb
    cases i with
    | core => exact .inl hb
    | held u => exact .inl hb
    | keep v =>
      simp only [KG.D] at hb
      cases hy : (gg.vars ++ [({ x with kp := o1, ca := o2 } : VarG)])[v]? with
      | none => rw [hy] at hb; simp at hb
      | some y =>
        rw [hy] at hb
        rcases hget v y hy with q | ⟨q1, q2⟩
        · refine .inl ?_
          simp only [KG.D, q]; exact hb
        · subst q1 q2
          exact .inr (.inl ⟨rfl, hb⟩)
    | cand v =>
      simp only [KG.D] at hb
      cases hy : (gg.vars ++ [({ x with kp := o1, ca := o2 } : VarG)])[v]? with
      | none => rw [hy] at hb; simp at hb
      | some y =>
        rw [hy] at hb
        rcases hget v y hy with q | ⟨q1, q2⟩
        · refine .inl ?_
          simp only [KG.D, q]; exact hb
        · subst q1 q2
          exact .inr (.inr ⟨rfl, hb⟩)
  have hb1 : ∀ b, b ∈ oF o1 → b < W1.heap.size := ho1.lt
  have ho1' : OgOk W3 o1 := (ho1.kp k2 (by simp)).kp k3 (fun b hb hb2 => by have := hn1 b hb; have := hlt .core b (hvc b hb2); omega)
  have ho2' : OgOk W3 o2 := ho2.kp k3 (fun b hb hb2 => by have := hn2 b hb; have := hlt .core b (hvc b hb2); omega)
  refine ⟨((h.kw.trans k1).trans k2).since k3 hvw, k3.blk (fun hb => hnd.1.2.2 hb) h2.hdr, h2.ck.kp k3 (fun b hb hb2 => hnd.2.2.2.2 b hb b hb2 rfl), h.pad, h2.mh.kp k3 (fun hb => hnd.2.1.2 hb), ?_, by simp; omega, fun u => ?_, fun v y hv => ?_, fun v y hv => ?_, h.nd, fun i j b hij hb hb2 => ?_, fun i b hb => ?_, h.rH, ?_⟩
  · have e : gg.vars ++ ({ x with kp := o1, ca := o2 } : VarG) :: g.vars.drop (gg.vars.length + 1) = (gg.vars ++ [{ x with kp := o1, ca := o2 }]) ++ g.vars.drop (gg.vars ++ [({ x with kp := o1, ca := o2 } : VarG)]).length := by simp
    rw [e] at hv3; exact hv3
  · exact (h2.held u).kp k3 (fun b hb => nin (.held u) (by simp) b hb)
  · rcases hget v y hv with q | ⟨_, q⟩
    · exact (h2.keep v y q).kp k3 (fun b hb => nin (.keep v) (by simp) b (by simp only [KG.D, q]; exact hb))
    · subst q; exact ho1'
  · rcases hget v y hv with q | ⟨_, q⟩
    · exact (h2.cand v y q).kp k3 (fun b hb => nin (.cand v) (by simp) b (by simp only [KG.D, q]; exact hb))
    · subst q; exact ho2'
  · rcases hD i b hb with q | ⟨q, r⟩ | ⟨q, r⟩ <;> rcases hD j b hb2 with q' | ⟨q', r'⟩ | ⟨q', r'⟩
    · exact h.sep i j b hij q q'
    · have := hlt i b q; have := hn1 b r'; omega
    · have := hlt i b q; have := hn2 b r'; omega
    · have := hlt j b q'; have := hn1 b r; omega
    · exact hij (q.trans q'.symm)
    · have := hb1 b r; have := hn2 b r'; omega
    · have := hlt j b q'; have := hn2 b r; omega
    · have := hb1 b r'; have := hn2 b r; omega
    · exact hij (q.trans q'.symm)
  · rcases hD i b hb with q | ⟨q, r⟩ | ⟨q, r⟩
    · exact h.new i b q
    · exact .inr (by have := hn1 b r; omega)
    · exact .inr (by have := hn2 b r; omega)
  · have e : (g.vars.take (gg.vars ++ [({ x with kp := o1, ca := o2 } : VarG)]).length) = g.vars.take gg.vars.length ++ [x] := by
      rw [List.length_append, List.length_singleton, List.take_add_one, hx]; rfl
    rw [e, List.map_append, List.map_append, h.rV]
    congr 1
    simp [varM, hl1, hl2]
/-- a keeper that was copied: the same state, blocks of its own (but for the parties) -/
structure KCp (w : World) (g : KG) (s : Shp) (c : Ck) (w' : World) (g' : KG) : Prop where
  at_ : KAt w' g' s c
  kp : Kp [] w w'
  pad : g'.ck.pad = g.ck.pad
  new : ∀ b, g'.In b → b ∈ blkOf g.ck.pad ∨ w.heap.size ≤ b
  H : ∀ t, oL (g'.H t) = oL (g.H t)
  V : g'.vars.map varM = g.vars.map varM
theorem PC.done (h : PC w W g gg s c) (h0 : KAt w g s c) (hH : ∀ t x, g.H t = some x → (gg.H t).isSome = true) (hV : gg.vars.length = g.vars.length) : KCp w g s c W gg := by
  refine ⟨⟨?_, h.ck, h.mh, ?_, by rw [hV]; exact h0.nv, h.held, h.keep, h.cand, h.nd, h.sep, h0.tab.kp h.kw (by simp), fun hb => ?_⟩, h.kw, h.pad, fun b ⟨i, hb⟩ => ?_, fun t => ?_, ?_⟩
  · show Blk W gg.kp [ptr gg.ck.p, .map (some gg.mh), .slice gg.vad gg.vars.length gg.vcap] _
    rw [hV]; exact h.hdr
  · have := h.vs
    rw [hV, List.drop_length, List.append_nil] at this
    rw [hV]; exact this
  · rcases h.new .core _ hb with ⟨_, q⟩ | q
    · exact h0.far (h0.padC q).1
    · have := h0.tab.lt; omega
  · rcases h.new i b hb with ⟨_, q⟩ | q
    · exact .inl q
    · exact .inr q
  · cases hx : g.H t with
    | some x =>
      have hs := hH t x hx
      cases hy : gg.H t with
      | none => rw [hy] at hs; cases hs
      | some y =>
        obtain ⟨x2, h1, h2⟩ := h.rH t y hy
        rw [hx] at h1
        have h1 := Option.some.inj h1
        subst h1
        exact h2
    | none =>
      cases hy : gg.H t with
      | none => rfl
      | some y =>
        obtain ⟨x2, h1, _⟩ := h.rH t y hy
        rw [hx] at h1; cases h1
  · have := h.rV
    rw [hV, List.take_length] at this
    exact this
end
end Go.Vc
