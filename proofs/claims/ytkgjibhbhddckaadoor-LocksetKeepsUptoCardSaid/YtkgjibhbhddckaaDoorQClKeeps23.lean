/- lockset: sets as ghosts; a keeper in memory. -/
import Derived.Test.YtkgjibhbhddckaaDoorQClKeeps17
import Derived.Test.YtkgjibhbhddckaaDoorQClKeeps22
namespace Go.Vc
open Go Go.Proofs
set_option maxRecDepth 10000
variable {w : World}
/-! ### A set that is held somewhere -/
structure SG where
  p : Nat
  ws : List Nat
  ad : Option Addr
  cap : Nat
def SG.F (x : SG) : List Nat := x.p :: blkOf x.ad
def SG.l (x : SG) : List Nat := elems x.ws
structure SgOk (w : World) (x : SG) : Prop where
  at_ : SetAt w x.p x.ws x.ad x.cap
  tr : Tr x.ws
def oF : Option SG → List Nat
  | none => []
  | some x => x.F
def oL (o : Option SG) : List Nat := match o with
  | none => []
  | some x => x.l
abbrev oV (o : Option SG) : Value := .pointer (o.map fun x => ⟨x.p, 0, none⟩)
def OgOk (w : World) (o : Option SG) : Prop := ∀ x, o = some x → SgOk w x
theorem SgOk.kp {w' : World} {x : SG} {S : List Nat} (h : SgOk w x) (hk : Kp S w w') (hS : ∀ b, b ∈ x.F → b ∉ S) : SgOk w' x := ⟨h.at_.kp hk hS, h.tr⟩
theorem OgOk.kp {w' : World} {o : Option SG} {S : List Nat} (h : OgOk w o) (hk : Kp S w w') (hS : ∀ b, b ∈ oF o → b ∉ S) : OgOk w' o := fun x hx => (h x hx).kp hk (fun b hb => hS b (by rw [hx]; exact hb))
theorem SgOk.lt {x : SG} (h : SgOk w x) : ∀ b, b ∈ x.F → b < w.heap.size := h.at_.lt
theorem OgOk.lt {o : Option SG} (h : OgOk w o) : ∀ b, b ∈ oF o → b < w.heap.size := fun b hb => by
  cases o with
  | none => simp [oF] at hb
  | some x => exact (h x rfl).lt b hb
theorem SgOk.far {x : SG} (h : SgOk w x) : 0 ∉ x.F := h.at_.far
theorem OgOk.none : OgOk w none := fun _ h => by cases h
/-- what a call leaves of a set -/
structure SgTo (w : World) (x : SG) (w' : World) (x' : SG) (l : List Nat) : Prop where
  ok : SgOk w' x'
  p : x'.p = x.p
  l : x'.l = l
  kp : Kp x.F w w'
  new : ∀ b, b ∈ x'.F → b ∈ x.F ∨ w.heap.size ≤ b
theorem SgTo.of {x : SG} {w' : World} {ws' : List Nat} {ad' : Option Addr} {cap' : Nat} {l : List Nat} (h : SetTo w x.p x.ad w' ws' ad' cap') (ht : Tr ws') (hl : elems ws' = l) : SgTo w x w' ⟨x.p, ws', ad', cap'⟩ l :=
  ⟨⟨h.at_, ht⟩, rfl, hl, h.kp, fun b hb => by
    rcases List.mem_cons.1 hb with rfl | hb
    · exact .inl (by simp [SG.F])
    · rcases h.new b hb with h1 | h1
      · exact .inl (List.mem_cons_of_mem _ h1)
      · exact .inr h1⟩
theorem sPut (hT : TabW w) {x : SG} (h : SgOk w x) {k : Nat} (hk : k < 1048576) : Ret Tryd.prog 35 [ptr x.p, I k] w (fun v w' => v = I 0 ∧ ∃ x', SgTo w x w' x' (withL x.l k)) :=
  (Put_ret hT h.at_ hk).mono fun v w' ⟨h1, ad', cap', h2⟩ => ⟨h1, _, SgTo.of h2 (tr_putW h.at_.ok h.tr k) (elems_putW _ _)⟩
theorem sDel {x : SG} (h : SgOk w x) {k : Nat} (hk : k < 1048576) : Ret Tryd.prog 36 [ptr x.p, I k] w (fun v w' => v = I 0 ∧ ∃ x', SgTo w x w' x' (x.l.filter fun y => decide (y ≠ k))) :=
  (Del_ret h.at_ hk).mono fun v w' ⟨h1, h2⟩ => ⟨h1, _, SgTo.of h2 (tr_delW h.tr k) (elems_delW h.at_.ok k)⟩
theorem elems_keepF (ws vs : List Nat) : elems (keepW ws vs) = (elems ws).filter fun y => decide (y ∈ elems vs) :=
  sorted_ext (elems_sorted _) ((elems_sorted _).filter _) fun x => by
    rw [List.mem_filter, mem_elems, mem_elems, bit_keepW, Bool.and_eq_true, decide_eq_true_eq, mem_elems]
theorem sKeep {x y : SG} (h : SgOk w x) (k : SgOk w y) (hd : ∀ b, b ∈ x.F → b ∉ y.F) : Ret Tryd.prog 68 [ptr x.p, ptr y.p] w (fun v w' => v = I 0 ∧ ∃ x', SgTo w x w' x' (x.l.filter fun z => decide (z ∈ y.l))) :=
  (Keep_ret h.at_ k.at_ (fun b hb hb2 => hd b hb2 hb)).mono fun v w' ⟨h1, h2⟩ => ⟨h1, _, SgTo.of h2 (tr_trim _) (elems_keepF _ _)⟩
theorem sCopy (hT : TabW w) {x : SG} (h : SgOk w x) : Ret Tryd.prog 51 [ptr x.p] w (fun v w' => ∃ x', v = ptr x'.p ∧ SgOk w' x' ∧ x'.l = x.l ∧ Kp [] w w' ∧ ∀ b, b ∈ x'.F → w.heap.size ≤ b) :=
  (Copy_ret hT h.at_).mono fun v w' ⟨p', ad', cap', h1, h2⟩ => ⟨⟨p', x.ws, ad', cap'⟩, h1, ⟨h2.at_, h.tr⟩, rfl, h2.kp, h2.new⟩
theorem sLen {x : SG} (h : SgOk w x) : Ret Tryd.prog 69 [ptr x.p] w (fun v w' => v = I x.l.length ∧ w' = w) := Len_ret h.at_
theorem sList (hT : TabW w) {o : Option SG} (h : OgOk w o) : Ret Tryd.prog 39 [oV o] w (fun v w' => ∃ ad' cap', v = .slice ad' (oL o).length cap' ∧ NewS w 3 w' ad' (oL o).length cap' ((oL o).map encI)) := by
  cases o with
  | none => exact List_nil hT
  | some x => exact List_ret hT (h x rfl).at_
theorem sNew (hT : TabW w) : Ret Tryd.prog 65 [.slice none 0 0] w (fun v w' => ∃ x', v = .tuple #[ptr x'.p, I 0] ∧ SgOk w' x' ∧ x'.l = [] ∧ Kp [] w w' ∧ ∀ b, b ∈ x'.F → w.heap.size ≤ b) := by
  refine (New_ret hT (l := []) (ad := none) (cap := 0) rfl (by simp)).mono fun v w' h => ?_
  rcases h with ⟨_, p, ad', cap', h2, h3⟩ | ⟨h1, _, _⟩
  · exact ⟨⟨p, [], ad', cap'⟩, h2, ⟨h3.at_, tr_nil⟩, rfl, h3.kp, h3.new⟩
  · exact absurd h1 (by simp [allOk])
/-! ### A keeper -/
structure VarG where
  ph : Int
  th : Int
  kp : Option SG
  ca : Option SG
  wa : Bool
  at_ : Int
abbrev varC (v : VarG) : List Value := [I v.ph, I v.th, oV v.kp, oV v.ca, .bool v.wa, I v.at_]
def varsC (l : List VarG) : List Value := l.flatMap varC
structure KG where
  kp : Nat
  ck : CkG
  mh : Nat
  vad : Option Addr
  vcap : Nat
  H : Int → Option SG
  vars : List VarG
inductive Ix where
  | core
  | held (t : Int)
  | keep (v : Nat)
  | cand (v : Nat)
def KG.core (g : KG) : List Nat := g.kp :: g.mh :: (g.ck.F ++ blkOf g.vad)
def KG.D (g : KG) : Ix → List Nat
  | .core => g.core
  | .held t => oF (g.H t)
  | .keep v => (g.vars[v]?.map fun (x : VarG) => oF x.kp).getD []
  | .cand v => (g.vars[v]?.map fun (x : VarG) => oF x.ca).getD []
abbrev kgC (g : KG) : List Value := [ptr g.ck.p, .map (some g.mh), .slice g.vad g.vars.length g.vcap]
def mapH (H : Int → Option SG) (t : Int) : Option Value := (H t).map fun x => ptr x.p
structure KAt (w : World) (g : KG) (s : Shp) (c : Ck) : Prop where
  hdr : Blk w g.kp (kgC g) 73
  ck : CkAt w g.ck s c
  mh : MapI w g.mh (mapH g.H)
  vs : OwnS w 91 6 g.vad g.vars.length g.vcap (varsC g.vars)
  nv : (g.vars.length : Int) = s.va
  held : ∀ t, OgOk w (g.H t)
  keep : ∀ (v : Nat) (x : VarG), g.vars[v]? = some x → OgOk w x.kp
  cand : ∀ (v : Nat) (x : VarG), g.vars[v]? = some x → OgOk w x.ca
  nd : g.core.Nodup
  sep : ∀ i j b, i ≠ j → b ∈ g.D i → b ∉ g.D j
  tab : TabW w
  far : 0 ∉ g.core
section
variable {g : KG} {s : Shp} {c : Ck}
theorem KAt.lt (h : KAt w g s c) : ∀ i b, b ∈ g.D i → b < w.heap.size := by
  intro i b hb
  cases i with
  | core =>
    simp only [KG.D, KG.core, List.mem_cons, List.mem_append] at hb
    rcases hb with rfl | rfl | hb | hb
    · exact h.hdr.lt
    · exact h.mh.lt
    · exact h.ck.toCkM.lt b hb
    · exact h.vs.lt b hb
  | held t => exact (h.held t).lt b hb
  | keep v =>
    simp only [KG.D] at hb
    cases hx : g.vars[v]? with
    | none => rw [hx] at hb; simp at hb
    | some x => rw [hx] at hb; exact (h.keep v x hx).lt b hb
  | cand v =>
    simp only [KG.D] at hb
    cases hx : g.vars[v]? with
    | none => rw [hx] at hb; simp at hb
    | some x => rw [hx] at hb; exact (h.cand v x hx).lt b hb
theorem KAt.kp (h : KAt w g s c) {w' : World} {S : List Nat} (hk : Kp S w w') (hS : ∀ i b, b ∈ g.D i → b ∉ S) (hT : 0 ∉ S) : KAt w' g s c where
  hdr := hk.blk (hS .core g.kp (by simp [KG.D, KG.core])) h.hdr
  ck := h.ck.kp hk (fun b hb => hS .core b (by simp [KG.D, KG.core, hb]))
  mh := h.mh.kp hk (hS .core _ (by simp [KG.D, KG.core]))
  vs := h.vs.kp hk (fun b hb => hS .core b (by simp [KG.D, KG.core, hb]))
  nv := h.nv
  held t := (h.held t).kp hk (fun b hb => hS (.held t) b hb)
  keep v x hx := (h.keep v x hx).kp hk (fun b hb => hS (.keep v) b (by simp only [KG.D, hx]; exact hb))
  cand v x hx := (h.cand v x hx).kp hk (fun b hb => hS (.cand v) b (by simp only [KG.D, hx]; exact hb))
  nd := h.nd
  sep := h.sep
  tab := h.tab.kp hk hT
  far := h.far
theorem KAt.kp0 (h : KAt w g s c) {w' : World} (hk : Kp [] w w') : KAt w' g s c := h.kp hk (by simp) (by simp)
theorem KAt.sm (h : KAt w g s c) {w' : World} (hk : Sm w w') : KAt w' g s c := h.kp0 (hk.kp [])
end
end Go.Vc
