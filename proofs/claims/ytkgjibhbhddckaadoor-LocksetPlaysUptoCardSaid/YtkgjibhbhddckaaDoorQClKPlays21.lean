/- lockset: one variable turns. -/
import Derived.Test.YtkgjibhbhddckaaDoorQClKPlays20
namespace Go.Vc
open Go Go.Proofs
set_option maxRecDepth 10000
variable {w : World}
def gv (g : KG) (i : Nat) (x : VarG) : KG := { g with vars := g.vars.set i x }
theorem gv_same {g : KG} {i : Nat} {x : VarG} (h : g.vars[i]? = some x) : gv g i x = g := by
  have e : g.vars.set i x = g.vars := by
    apply List.ext_getElem?
    intro j
    rw [List.getElem?_set]
    by_cases hj : i = j
    · subst hj
      rw [if_pos rfl, if_pos ((List.getElem?_eq_some_iff.1 h).1), h]
    · rw [if_neg hj]
  simp [gv, e]
theorem varsC_get : ∀ {l : List VarG} {i : Nat} {x : VarG}, l[i]? = some x → ∀ j, j < 6 → (varsC l)[i * 6 + j]? = (varC x)[j]?
  | [], i, x, h, _, _ => by simp at h
  | y :: r, 0, x, h, j, hj => by
    simp at h; subst h
    have e1 : varsC (y :: r) = varC y ++ varsC r := by simp [varsC]
    rw [e1, Nat.zero_mul, Nat.zero_add, List.getElem?_append_left (by simpa using hj)]
  | y :: r, i + 1, x, h, j, hj => by
    have ih := varsC_get (l := r) (i := i) (x := x) (by simpa using h) j hj
    have e1 : varsC (y :: r) = varC y ++ varsC r := by simp [varsC]
    have l6 : (varC y).length = 6 := rfl
    rw [e1, List.getElem?_append_right (by omega)]
    have e2 : (i + 1) * 6 + j - (varC y).length = i * 6 + j := by omega
    rw [e2]; exact ih
/-- one cell of one variable is stored -/
theorem varsC_set {l : List VarG} {i : Nat} {x x' : VarG} {j : Nat} {v : Value} (hi : l[i]? = some x) (hj : j < 6) (hx : varC x' = (varC x).set j v) : varsC (l.set i x') = (varsC l).set (i * 6 + j) v := by
  have hlt : i < l.length := (List.getElem?_eq_some_iff.1 hi).1
  apply List.ext_getElem?
  intro k
  have hl := varsC_len l
  have hl' := varsC_len (l.set i x')
  rw [List.length_set] at hl'
  by_cases hk : k < l.length * 6
  · have hq : k / 6 < l.length := by omega
    have e : k = k / 6 * 6 + k % 6 := by omega
    have hm : k % 6 < 6 := by omega
    by_cases hki : k / 6 = i
    · have h1 : (l.set i x')[k / 6]? = some x' := by rw [hki, List.getElem?_set_self hlt]
      rw [List.getElem?_set]
      conv => lhs; rw [e, varsC_get h1 _ hm, hx, List.getElem?_set]
      by_cases hjk : j = k % 6
      · rw [if_pos hjk, if_pos (by simpa using hj), if_pos (by omega), if_pos (by omega)]
      · rw [if_neg hjk, if_neg (by omega)]
        conv => rhs; rw [e, varsC_get (by rw [hki]; exact hi) _ hm]
    · obtain ⟨y, hy⟩ : ∃ y, l[k / 6]? = some y := ⟨_, List.getElem?_eq_getElem hq⟩
      have h1 : (l.set i x')[k / 6]? = some y := by rw [List.getElem?_set_ne (fun e => hki e.symm)]; exact hy
      rw [List.getElem?_set_ne (by omega)]
      conv => lhs; rw [e, varsC_get h1 _ hm]
      conv => rhs; rw [e, varsC_get hy _ hm]
  · rw [List.getElem?_eq_none (by omega), List.getElem?_eq_none (by rw [List.length_set]; omega)]
section
variable {g : KG} {s : Shp} {c : Ck} {i : Nat} {x : VarG}
/-- where a variable lies -/
theorem KAt.var_ (h : KAt w (gv g i x) s c) (hi : i < g.vars.length) : ∃ vb L, g.vad = some ⟨vb, 0, none⟩ ∧ Blk w vb L 91 ∧ (∀ j, j < 6 → L[i * 6 + j]? = (varC x)[j]?) ∧ i * 6 + 6 ≤ L.length ∧
    (∃ junk, L = varsC (g.vars.set i x) ++ junk) := by
  have ho := h.vs
  have hlen : (gv g i x).vars.length = g.vars.length := by simp [gv]
  cases hv : g.vad with
  | none =>
    have e : (gv g i x).vad = none := hv
    rw [e] at ho; obtain ⟨h1, _⟩ := ho.2; omega
  | some ad =>
    obtain ⟨vb, off, spot⟩ := ad
    have e : (gv g i x).vad = some ⟨vb, off, spot⟩ := hv
    rw [e] at ho
    obtain ⟨h1, h2, h3, h4, junk, h5, h6⟩ := ho.2
    dsimp only at h1 h2 h5
    subst h1 h2
    have hl := varsC_len (gv g i x).vars
    have hx : (gv g i x).vars[i]? = some x := by simp [gv, hi]
    refine ⟨vb, _, rfl, h5, fun j hj => ?_, ?_, ⟨junk, rfl⟩⟩
    · rw [List.getElem?_append_left (by omega)]; exact varsC_get hx j hj
    · rw [List.length_append]; omega
theorem gv_D (hi : i < g.vars.length) (x' : VarG) (j : Ix) (h1 : j ≠ .keep i) (h2 : j ≠ .cand i) : (gv g i x').D j = g.D j := by
  cases j with
  | core => rfl
  | held t => rfl
  | keep v =>
    have hv : i ≠ v := fun e => h1 (by rw [e])
    simp only [KG.D, gv, List.getElem?_set_ne hv]
  | cand v =>
    have hv : i ≠ v := fun e => h2 (by rw [e])
    simp only [KG.D, gv, List.getElem?_set_ne hv]
theorem gv_keep (hi : i < g.vars.length) (x' : VarG) : (gv g i x').D (.keep i) = oF x'.kp := by simp [KG.D, gv, hi]
theorem gv_cand (hi : i < g.vars.length) (x' : VarG) : (gv g i x').D (.cand i) = oF x'.ca := by simp [KG.D, gv, hi]
/-- a variable is another now: one of its sets at most has turned, or is new -/
theorem KAt.setV {w' : World} {x' : VarG} (h : KAt w (gv g i x) s c) (hi : i < g.vars.length) (hk : Kp (blkOf g.vad ++ (oF x.kp ++ oF x.ca)) w w')
    (hvs : OwnS w' 91 6 g.vad (g.vars.set i x').length g.vcap (varsC (g.vars.set i x'))) (h1 : OgOk w' x'.kp) (h2 : OgOk w' x'.ca) (n1 : ∀ b, b ∈ oF x'.kp → b ∈ oF x.kp ∨ w.heap.size ≤ b) (n2 : ∀ b, b ∈ oF x'.ca → b ∈ oF x.ca ∨ w.heap.size ≤ b) (ne : ∀ b, b ∈ oF x'.kp → b ∉ oF x'.ca) :
    KAt w' (gv g i x') s c ∧ KTo w (gv g i x) w' (gv g i x') := by
  have ek := gv_keep hi x
  have ec := gv_cand hi x
  have hcore : ∀ b, b ∈ blkOf g.vad → b ∈ (gv g i x).D .core := fun b hb => by
    simp only [KG.D, KG.core, List.mem_cons, List.mem_append]
    exact .inr (.inr (.inr hb))
  have nin : ∀ j, j ≠ .core → j ≠ .keep i → j ≠ .cand i → ∀ b, b ∈ (gv g i x).D j → b ∉ blkOf g.vad ++ (oF x.kp ++ oF x.ca) := fun j q1 q2 q3 b hb hb2 => by
    rcases List.mem_append.1 hb2 with hb2 | hb2
    · exact h.sep j .core b q1 hb (hcore b hb2)
    · rcases List.mem_append.1 hb2 with hb2 | hb2
      · exact h.sep j (.keep i) b q2 hb (by rw [ek]; exact hb2)
      · exact h.sep j (.cand i) b q3 hb (by rw [ec]; exact hb2)
  have ninc : ∀ b, b ∈ g.kp :: g.mh :: g.ck.F → b ∉ blkOf g.vad ++ (oF x.kp ++ oF x.ca) := fun b hb hb2 => by
    have hbc : b ∈ (gv g i x).D .core := by
      simp only [KG.D, KG.core, List.mem_cons, List.mem_append] at hb ⊢
      rcases hb with hb | hb | hb
      · exact .inl hb
      · exact .inr (.inl hb)
      · exact .inr (.inr (.inl hb))
    rcases List.mem_append.1 hb2 with hb2 | hb2
    · have hnd := h.nd
      simp only [KG.core, List.nodup_cons, List.mem_cons, List.mem_append, not_or, List.nodup_append] at hnd
      simp only [List.mem_cons] at hb
      rcases hb with rfl | rfl | hb
      · exact hnd.1.2.2 hb2
      · exact hnd.2.1.2 hb2
      · exact hnd.2.2.2.2 b hb b hb2 rfl
    · rcases List.mem_append.1 hb2 with hb2 | hb2
      · exact h.sep .core (.keep i) b (by simp) hbc (by rw [ek]; exact hb2)
      · exact h.sep .core (.cand i) b (by simp) hbc (by rw [ec]; exact hb2)
  have tabD : 0 ∉ blkOf g.vad ++ (oF x.kp ++ oF x.ca) := fun hb => by
    have hx : (gv g i x).vars[i]? = some x := by simp [gv, hi]
    rcases List.mem_append.1 hb with hb | hb
    · exact h.far (hcore _ hb)
    · rcases List.mem_append.1 hb with hb | hb
      · cases hq : x.kp with
        | none => rw [hq] at hb; simp [oF] at hb
        | some y => rw [hq] at hb; exact ((h.keep i x hx) y hq).far hb
      · cases hq : x.ca with
        | none => rw [hq] at hb; simp [oF] at hb
        | some y => rw [hq] at hb; exact ((h.cand i x hx) y hq).far hb
  have hsrc : ∀ j b, b ∈ (gv g i x').D j → b ∈ (gv g i x).D j ∨ w.heap.size ≤ b := fun j b hb => by
    by_cases q1 : j = .keep i
    · subst q1; rw [gv_keep hi] at hb ⊢; exact n1 b hb
    · by_cases q2 : j = .cand i
      · subst q2; rw [gv_cand hi] at hb ⊢; exact n2 b hb
      · rw [gv_D hi x' j q1 q2] at hb; rw [gv_D hi x j q1 q2]; exact .inl hb
  have hdr' : Blk w' g.kp (kgC (gv g i x')) 73 := by
    have := hk.blk (ninc g.kp (by simp)) h.hdr
    simpa [kgC, gv] using this
  refine ⟨⟨hdr', h.ck.kp hk (fun b hb => ninc b (by
    have hb : b ∈ g.ck.F := hb
    simp [hb])), h.mh.kp hk (ninc _ (by simp [gv])), hvs, by have := h.nv; simpa [gv] using this, fun t => (h.held t).kp hk (fun b hb => nin (.held t) (by simp) (by simp) (by simp) b hb), fun v y hy => ?_, fun v y hy => ?_, h.nd, fun j l b hjl hb hb2 => ?_, h.tab.kp hk tabD, h.far⟩, ⟨hk.kq (fun b hb => ?_), fun b ⟨j, hb⟩ => ?_, rfl, hk.kq (fun b hb => ?_), rfl⟩⟩
  · by_cases hv : i = v
    · subst hv
      have : y = x' := by simp [gv, hi] at hy; exact hy.symm
      rw [this]; exact h1
    · have hy2 : (gv g i x).vars[v]? = some y := by simp only [gv, List.getElem?_set_ne hv] at hy ⊢; exact hy
      exact (h.keep v y hy2).kp hk (fun b hb => nin (.keep v) (by simp) (fun e => hv (by cases e; rfl)) (by simp) b (by simp only [KG.D, hy2]; exact hb))
  · by_cases hv : i = v
    · subst hv
      have : y = x' := by simp [gv, hi] at hy; exact hy.symm
      rw [this]; exact h2
    · have hy2 : (gv g i x).vars[v]? = some y := by simp only [gv, List.getElem?_set_ne hv] at hy ⊢; exact hy
      exact (h.cand v y hy2).kp hk (fun b hb => nin (.cand v) (by simp) (by simp) (fun e => hv (by cases e; rfl)) b (by simp only [KG.D, hy2]; exact hb))
  · by_cases q : (j = .keep i ∧ l = .cand i) ∨ (j = .cand i ∧ l = .keep i)
    · rcases q with ⟨rfl, rfl⟩ | ⟨rfl, rfl⟩
      · rw [gv_keep hi] at hb; rw [gv_cand hi] at hb2; exact ne b hb hb2
      · rw [gv_cand hi] at hb; rw [gv_keep hi] at hb2; exact ne b hb2 hb
    · rcases hsrc j b hb with h3 | h3
      · rcases hsrc l b hb2 with h4 | h4
        · exact h.sep j l b hjl h3 h4
        · have := h.lt j b h3; omega
      · -- new on one side: the other side is old
        have hnew : j = .keep i ∨ j = .cand i := by
          by_cases q1 : j = .keep i
          · exact .inl q1
          · by_cases q2 : j = .cand i
            · exact .inr q2
            · exfalso
              rw [gv_D hi x' j q1 q2] at hb
              have := h.lt j b (by rw [gv_D hi x j q1 q2]; exact hb)
              omega
        have hl : l ≠ .keep i ∧ l ≠ .cand i := by
          refine ⟨fun e => ?_, fun e => ?_⟩
          · subst e
            rcases hnew with e | e
            · exact hjl e
            · exact q (.inr ⟨e, rfl⟩)
          · subst e
            rcases hnew with e | e
            · exact q (.inl ⟨e, rfl⟩)
            · exact hjl e
        rw [gv_D hi x' l hl.1 hl.2] at hb2
        have := h.lt l b (by rw [gv_D hi x l hl.1 hl.2]; exact hb2)
        omega
  · rcases List.mem_append.1 hb with hb | hb
    · exact ⟨.core, hcore b hb⟩
    · rcases List.mem_append.1 hb with hb | hb
      · exact ⟨.keep i, by rw [ek]; exact hb⟩
      · exact ⟨.cand i, by rw [ec]; exact hb⟩
  · rcases hsrc j b hb with h3 | h3
    · exact .inl ⟨j, h3⟩
    · exact .inr h3
  · rcases List.mem_append.1 hb with hb | hb
    · exact ⟨⟨.core, hcore b hb⟩, fun hp => (h.padC hp).2.2.2 hb⟩
    · rcases List.mem_append.1 hb with hb | hb
      · exact ⟨⟨.keep i, by rw [ek]; exact hb⟩, fun hp => h.sep .core (.keep i) b (by simp) (h.padC hp).1 (by rw [ek]; exact hb)⟩
      · exact ⟨⟨.cand i, by rw [ec]; exact hb⟩, fun hp => h.sep .core (.cand i) b (by simp) (h.padC hp).1 (by rw [ec]; exact hb)⟩
end
end Go.Vc
/- lockset: an access. -/
namespace Go.Vc
open Go Go.Proofs
set_option maxRecDepth 10000
variable {w : World}
structure LV where
  ph : Int
  th : Int
  kp : Option (List Nat)
  ca : Option (List Nat)
  wa : Bool
  at_ : Int
def varM (x : VarG) : LV := ⟨x.ph, x.th, x.kp.map SG.l, x.ca.map SG.l, x.wa, x.at_⟩
def inter (a b : List Nat) : List Nat := a.filter fun z => decide (z ∈ b)
def warnL (v : LV) (at_ : Int) : LV := if v.ph = 3 ∧ (v.ca.getD []).length = 0 ∧ v.wa = false then { v with wa := true, at_ := at_ } else v
def sharedL (v : LV) (e : Ev) (h : List Nat) (at_ : Int) : LV := warnL { v with ca := v.ca.map (inter · h), ph := if e.k = 2 then 3 else v.ph } at_
def accL (v0 : LV) (e : Ev) (h : List Nat) (at_ : Int) : LV :=
  let v := { v0 with kp := some (inter (v0.kp.getD h) h) }
  if v.ph = 0 then { v with ph := 1, th := e.t }
  else if v.ph = 1 then (if v.th = e.t then v else sharedL { v with ca := some h, ph := 2, th := 0 } e h at_)
  else sharedL v e h at_
def VOk (v : LV) : Prop := v.ph = 0 ∨ v.ph = 1 ∨ ((v.ph = 2 ∨ v.ph = 3) ∧ v.ca.isSome = true)
section
variable {g : KG} {s : Shp} {c : Ck} {i : Nat} {x : VarG}
theorem varsC_inj6 {a b : VarG} (h : varC a = varC b) (l : List VarG) (i : Nat) : varsC (l.set i a) = varsC (l.set i b) := by
  have e : ∀ (l : List VarG) (i : Nat), varsC (l.set i a) = varsC (l.set i b) := by
    intro l
    induction l with
    | nil => intro i; rfl
    | cons y r ih =>
      intro i
      have e1 : ∀ z t, varsC (z :: t) = varC z ++ varsC t := fun z t => by simp [varsC]
      cases i with
      | zero => rw [List.set_cons_zero, List.set_cons_zero, e1, e1, h]
      | succ i => rw [List.set_cons_succ, List.set_cons_succ, e1, e1, ih]
  exact e l i
/-- a cell of a variable is stored, behind a call that made memory -/
theorem KAt.cell {w1 w2 : World} {x' : VarG} {j vb : Nat} {v : Value} {L : List Value} (h : KAt w (gv g i x) s c) (hi : i < g.vars.length) (k1 : Kp [] w w1) (hvad : g.vad = some ⟨vb, 0, none⟩) (hL : Blk w vb L 91) (hLj : ∃ junk, L = varsC (g.vars.set i x) ++ junk)
    (hu : Upd w1 vb (.cells ⟨L.set (i * 6 + j) v⟩ 91 (0, 0)) w2) (hj : j < 6) (hc : varC x' = (varC x).set j v) (h1 : OgOk w1 x'.kp) (h2 : OgOk w1 x'.ca) (n1 : ∀ b, b ∈ oF x'.kp → b ∈ oF x.kp ∨ w.heap.size ≤ b) (n2 : ∀ b, b ∈ oF x'.ca → b ∈ oF x.ca ∨ w.heap.size ≤ b) (ne : ∀ b, b ∈ oF x'.kp → b ∉ oF x'.ca) :
    KAt w2 (gv g i x') s c ∧ KTo w (gv g i x) w2 (gv g i x') := by
  obtain ⟨junk, hLj⟩ := hLj
  have hx : (g.vars.set i x)[i]? = some x := by simp [hi]
  have hvc : vb ∈ (gv g i x).D .core := by
    simp only [KG.D, KG.core, List.mem_cons, List.mem_append]
    refine .inr (.inr (.inr ?_))
    show vb ∈ blkOf g.vad
    rw [hvad]; simp [blkOf]
  have hvlt := hL.lt
  have k2 : Kp [vb] w1 w2 := hu.kp _ (.inl (by simp))
  have kk : Kp (blkOf g.vad ++ (oF x.kp ++ oF x.ca)) w w2 := (k1.mono (by simp)).trans (k2.mono (fun b hb => by simp at hb; subst hb; rw [hvad]; simp [blkOf]))
  have a1 : ∀ b, b ∈ oF x'.kp → b ∉ [vb] := fun b hb hb2 => by
    simp at hb2; subst hb2
    rcases n1 _ hb with h3 | h3
    · exact h.sep .core (.keep i) _ (by simp) hvc (by rw [gv_keep hi]; exact h3)
    · omega
  have a2 : ∀ b, b ∈ oF x'.ca → b ∉ [vb] := fun b hb hb2 => by
    simp at hb2; subst hb2
    rcases n2 _ hb with h3 | h3
    · exact h.sep .core (.cand i) _ (by simp) hvc (by rw [gv_cand hi]; exact h3)
    · omega
  refine h.setV hi kk ?_ (h1.kp k2 a1) (h2.kp k2 a2) n1 n2 ne
  have ho := h.vs
  have e0 : (gv g i x).vad = some ⟨vb, 0, none⟩ := hvad
  have e1 : varsC (g.vars.set i x') = (varsC (g.vars.set i x)).set (i * 6 + j) v := by
    have := varsC_set (l := g.vars.set i x) (x := x) (x' := x') hx hj hc
    simpa using this
  have hl := varsC_len (g.vars.set i x)
  rw [List.length_set] at hl
  rw [e0] at ho
  obtain ⟨_, _, _, h3, h4, junk0, h5, h6⟩ := ho
  have ej : junk0 = junk := by
    have hL2 := hL
    rw [hLj] at hL2
    unfold Blk at h5 hL2
    rw [h5] at hL2
    simpa [gv] using hL2
  subst ej
  rw [hvad]
  refine ⟨by rw [varsC_len], rfl, rfl, by simpa [gv] using h3, h4, junk0, ?_, ?_⟩
  · have := hu.blk
    rw [hLj, List.set_append_left _ _ (by omega), ← e1] at this
    exact this
  · rw [e1]; simpa [gv] using h6
/-- one of a variable's sets has turned where it is -/
theorem KAt.keepTo {w' : World} {y y' : SG} {l : List Nat} (h : KAt w (gv g i x) s c) (hi : i < g.vars.length) (hy : x.kp = some y) (ht : SgTo w y w' y' l) : KAt w' (gv g i { x with kp := some y' }) s c ∧ KTo w (gv g i x) w' (gv g i { x with kp := some y' }) := by
  have ek := gv_keep hi x
  have ec := gv_cand hi x
  have ey : oF x.kp = y.F := by rw [hy]; rfl
  have hx : (gv g i x).vars[i]? = some x := by simp [gv, hi]
  have hvd : ∀ b, b ∈ blkOf g.vad → b ∉ y.F := fun b hb hb2 => h.sep .core (.keep i) b (by simp) (by simp only [KG.D, KG.core, List.mem_cons, List.mem_append]; exact .inr (.inr (.inr hb))) (by rw [ek, ey]; exact hb2)
  refine h.setV hi (ht.kp.mono (fun b hb => by rw [ey]; simp [hb])) ?_ (fun z hz => by cases hz; exact ht.ok) ((h.cand i x hx).kp ht.kp (fun b hb hb2 => h.sep (.cand i) (.keep i) b (by simp) (by rw [ec]; exact hb) (by rw [ek, ey]; exact hb2))) (fun b hb => by rw [ey]; exact ht.new b hb) (fun b hb => .inl hb) (fun b hb hb2 => ?_)
  · have := h.vs.kp ht.kp hvd
    have e := varsC_inj6 (a := { x with kp := some y' }) (b := x) (by simp [varC, hy, ht.p]) g.vars i
    rw [e]
    simpa [gv] using this
  · rcases ht.new b hb with h3 | h3
    · exact h.sep (.keep i) (.cand i) b (by simp) (by rw [ek, ey]; exact h3) (by rw [ec]; exact hb2)
    · have := h.lt (.cand i) b (by rw [ec]; exact hb2); omega
theorem KAt.candTo {w' : World} {y y' : SG} {l : List Nat} (h : KAt w (gv g i x) s c) (hi : i < g.vars.length) (hy : x.ca = some y) (ht : SgTo w y w' y' l) : KAt w' (gv g i { x with ca := some y' }) s c ∧ KTo w (gv g i x) w' (gv g i { x with ca := some y' }) := by
  have ek := gv_keep hi x
  have ec := gv_cand hi x
  have ey : oF x.ca = y.F := by rw [hy]; rfl
  have hx : (gv g i x).vars[i]? = some x := by simp [gv, hi]
  have hvd : ∀ b, b ∈ blkOf g.vad → b ∉ y.F := fun b hb hb2 => h.sep .core (.cand i) b (by simp) (by simp only [KG.D, KG.core, List.mem_cons, List.mem_append]; exact .inr (.inr (.inr hb))) (by rw [ec, ey]; exact hb2)
  refine h.setV hi (ht.kp.mono (fun b hb => by rw [ey]; simp [hb])) ?_ ((h.keep i x hx).kp ht.kp (fun b hb hb2 => h.sep (.keep i) (.cand i) b (by simp) (by rw [ek]; exact hb) (by rw [ec, ey]; exact hb2))) (fun z hz => by cases hz; exact ht.ok) (fun b hb => .inl hb) (fun b hb => by rw [ey]; exact ht.new b hb) (fun b hb hb2 => ?_)
  · have := h.vs.kp ht.kp hvd
    have e := varsC_inj6 (a := { x with ca := some y' }) (b := x) (by simp [varC, hy, ht.p]) g.vars i
    rw [e]
    simpa [gv] using this
  · rcases ht.new b hb2 with h3 | h3
    · exact h.sep (.keep i) (.cand i) b (by simp) (by rw [ek]; exact hb) (by rw [ec, ey]; exact h3)
    · have := h.lt (.keep i) b (by rw [ek]; exact hb); omega
end
end Go.Vc
