/- lockset: an access. -/
import Derived.Test.YtkgjibhbhddckaaDoorLs3
namespace Go.Vc
open Go Go.Proofs
set_option maxRecDepth 10000
variable {w : World}
structure LV where
  ph : Int
  th : Int
  kp : Option (List Nat)
  ca : Option (List Nat)
  wa : Bool
  at_ : Int
def varM (x : VarG) : LV := ⟨x.ph, x.th, x.kp.map SG.l, x.ca.map SG.l, x.wa, x.at_⟩
def inter (a b : List Nat) : List Nat := a.filter fun z => decide (z ∈ b)
def warnL (v : LV) (at_ : Int) : LV := if v.ph = 3 ∧ (v.ca.getD []).length = 0 ∧ v.wa = false then { v with wa := true, at_ := at_ } else v
def sharedL (v : LV) (e : Ev) (h : List Nat) (at_ : Int) : LV := warnL { v with ca := v.ca.map (inter · h), ph := if e.k = 2 then 3 else v.ph } at_
def accL (v0 : LV) (e : Ev) (h : List Nat) (at_ : Int) : LV :=
  let v := { v0 with kp := some (inter (v0.kp.getD h) h) }
  if v.ph = 0 then { v with ph := 1, th := e.t }
  else if v.ph = 1 then (if v.th = e.t then v else sharedL { v with ca := some h, ph := 2, th := 0 } e h at_)
  else sharedL v e h at_
def VOk (v : LV) : Prop := v.ph = 0 ∨ v.ph = 1 ∨ ((v.ph = 2 ∨ v.ph = 3) ∧ v.ca.isSome = true)
section
variable {g : KG} {s : Shp} {c : Ck} {i : Nat} {x : VarG}
theorem varsC_inj6 {a b : VarG} (h : varC a = varC b) (l : List VarG) (i : Nat) : varsC (l.set i a) = varsC (l.set i b) := by
  have e : ∀ (l : List VarG) (i : Nat), varsC (l.set i a) = varsC (l.set i b) := by
    intro l
    induction l with
    | nil => intro i; rfl
    | cons y r ih =>
      intro i
      have e1 : ∀ z t, varsC (z :: t) = varC z ++ varsC t := fun z t => by simp [varsC]
      cases i with
      | zero => rw [List.set_cons_zero, List.set_cons_zero, e1, e1, h]
      | succ i => rw [List.set_cons_succ, List.set_cons_succ, e1, e1, ih]
  exact e l i
/-- a cell of a variable is stored, behind a call that made memory -/
theorem KAt.cell {w1 w2 : World} {x' : VarG} {j vb : Nat} {v : Value} {L : List Value} (h : KAt w (gv g i x) s c) (hi : i < g.vars.length) (k1 : Kp [] w w1) (hvad : g.vad = some ⟨vb, 0, none⟩) (hL : Blk w vb L 91) (hLj : ∃ junk, L = varsC (g.vars.set i x) ++ junk)
    (hu : Upd w1 vb (.cells ⟨L.set (i * 6 + j) v⟩ 91 (0, 0)) w2) (hj : j < 6) (hc : varC x' = (varC x).set j v) (h1 : OgOk w1 x'.kp) (h2 : OgOk w1 x'.ca) (n1 : ∀ b, b ∈ oF x'.kp → b ∈ oF x.kp ∨ w.heap.size ≤ b) (n2 : ∀ b, b ∈ oF x'.ca → b ∈ oF x.ca ∨ w.heap.size ≤ b) (ne : ∀ b, b ∈ oF x'.kp → b ∉ oF x'.ca) :
    KAt w2 (gv g i x') s c ∧ KTo w (gv g i x) w2 (gv g i x') := by
  obtain ⟨junk, hLj⟩ := hLj
  have hx : (g.vars.set i x)[i]? = some x := by simp [hi]
  have hvc : vb ∈ (gv g i x).D .core := by
    simp only [KG.D, KG.core, List.mem_cons, List.mem_append]
    refine .inr (.inr (.inr ?_))
    show vb ∈ blkOf g.vad
    rw [hvad]; simp [blkOf]
  have hvlt := hL.lt
  have k2 : Kp [vb] w1 w2 := hu.kp _ (.inl (by simp))
  have kk : Kp (blkOf g.vad ++ (oF x.kp ++ oF x.ca)) w w2 := (k1.mono (by simp)).trans (k2.mono (fun b hb => by simp at hb; subst hb; rw [hvad]; simp [blkOf]))
  have a1 : ∀ b, b ∈ oF x'.kp → b ∉ [vb] := fun b hb hb2 => by
    simp at hb2; subst hb2
    rcases n1 _ hb with h3 | h3
    · exact h.sep .core (.keep i) _ (by simp) hvc (by rw [gv_keep hi]; exact h3)
    · omega
  have a2 : ∀ b, b ∈ oF x'.ca → b ∉ [vb] := fun b hb hb2 => by
    simp at hb2; subst hb2
    rcases n2 _ hb with h3 | h3
    · exact h.sep .core (.cand i) _ (by simp) hvc (by rw [gv_cand hi]; exact h3)
    · omega
  refine h.setV hi kk ?_ (h1.kp k2 a1) (h2.kp k2 a2) n1 n2 ne
  have ho := h.vs
  have e0 : (gv g i x).vad = some ⟨vb, 0, none⟩ := hvad
  have e1 : varsC (g.vars.set i x') = (varsC (g.vars.set i x)).set (i * 6 + j) v := by
    have := varsC_set (l := g.vars.set i x) (x := x) (x' := x') hx hj hc
    simpa using this
  have hl := varsC_len (g.vars.set i x)
  rw [List.length_set] at hl
  rw [e0] at ho
  obtain ⟨_, _, _, h3, h4, junk0, h5, h6⟩ := ho
  have ej : junk0 = junk := by
    have hL2 := hL
    rw [hLj] at hL2
    unfold Blk at h5 hL2
    rw [h5] at hL2
    simpa [gv] using hL2
  subst ej
  rw [hvad]
  refine ⟨by rw [varsC_len], rfl, rfl, by simpa [gv] using h3, h4, junk0, ?_, ?_⟩
  · have := hu.blk
    rw [hLj, List.set_append_left _ _ (by omega), ← e1] at this
    exact this
  · rw [e1]; simpa [gv] using h6
/-- one of a variable's sets has turned where it is -/
theorem KAt.keepTo {w' : World} {y y' : SG} {l : List Nat} (h : KAt w (gv g i x) s c) (hi : i < g.vars.length) (hy : x.kp = some y) (ht : SgTo w y w' y' l) : KAt w' (gv g i { x with kp := some y' }) s c ∧ KTo w (gv g i x) w' (gv g i { x with kp := some y' }) := by
  have ek := gv_keep hi x
  have ec := gv_cand hi x
  have ey : oF x.kp = y.F := by rw [hy]; rfl
  have hx : (gv g i x).vars[i]? = some x := by simp [gv, hi]
  have hvd : ∀ b, b ∈ blkOf g.vad → b ∉ y.F := fun b hb hb2 => h.sep .core (.keep i) b (by simp) (by simp only [KG.D, KG.core, List.mem_cons, List.mem_append]; exact .inr (.inr (.inr hb))) (by rw [ek, ey]; exact hb2)
  refine h.setV hi (ht.kp.mono (fun b hb => by rw [ey]; simp [hb])) ?_ (fun z hz => by cases hz; exact ht.ok) ((h.cand i x hx).kp ht.kp (fun b hb hb2 => h.sep (.cand i) (.keep i) b (by simp) (by rw [ec]; exact hb) (by rw [ek, ey]; exact hb2))) (fun b hb => by rw [ey]; exact ht.new b hb) (fun b hb => .inl hb) (fun b hb hb2 => ?_)
  · have := h.vs.kp ht.kp hvd
    have e := varsC_inj6 (a := { x with kp := some y' }) (b := x) (by simp [varC, hy, ht.p]) g.vars i
    rw [e]
    simpa [gv] using this
  · rcases ht.new b hb with h3 | h3
    · exact h.sep (.keep i) (.cand i) b (by simp) (by rw [ek, ey]; exact h3) (by rw [ec]; exact hb2)
    · have := h.lt (.cand i) b (by rw [ec]; exact hb2); omega
theorem KAt.candTo {w' : World} {y y' : SG} {l : List Nat} (h : KAt w (gv g i x) s c) (hi : i < g.vars.length) (hy : x.ca = some y) (ht : SgTo w y w' y' l) : KAt w' (gv g i { x with ca := some y' }) s c ∧ KTo w (gv g i x) w' (gv g i { x with ca := some y' }) := by
  have ek := gv_keep hi x
  have ec := gv_cand hi x
  have ey : oF x.ca = y.F := by rw [hy]; rfl
  have hx : (gv g i x).vars[i]? = some x := by simp [gv, hi]
  have hvd : ∀ b, b ∈ blkOf g.vad → b ∉ y.F := fun b hb hb2 => h.sep .core (.cand i) b (by simp) (by simp only [KG.D, KG.core, List.mem_cons, List.mem_append]; exact .inr (.inr (.inr hb))) (by rw [ec, ey]; exact hb2)
  refine h.setV hi (ht.kp.mono (fun b hb => by rw [ey]; simp [hb])) ?_ ((h.keep i x hx).kp ht.kp (fun b hb hb2 => h.sep (.keep i) (.cand i) b (by simp) (by rw [ek]; exact hb) (by rw [ec, ey]; exact hb2))) (fun z hz => by cases hz; exact ht.ok) (fun b hb => .inl hb) (fun b hb => by rw [ey]; exact ht.new b hb) (fun b hb hb2 => ?_)
  · have := h.vs.kp ht.kp hvd
    have e := varsC_inj6 (a := { x with ca := some y' }) (b := x) (by simp [varC, hy, ht.p]) g.vars i
    rw [e]
    simpa [gv] using this
  · rcases ht.new b hb2 with h3 | h3
    · exact h.sep (.keep i) (.cand i) b (by simp) (by rw [ek]; exact hb) (by rw [ec, ey]; exact h3)
    · have := h.lt (.keep i) b (by rw [ek]; exact hb); omega
end
end Go.Vc
