/- lockset: sets as ghosts; a keeper in memory. -/
import Derived.Test.YtkgjibhbhddckaaDoorQClKPlays14
import Derived.Test.YtkgjibhbhddckaaDoorQClKPlays19
namespace Go.Vc
open Go Go.Proofs
set_option maxRecDepth 10000
variable {w : World}
/-! ### A set that is held somewhere -/
structure SG where
  p : Nat
  ws : List Nat
  ad : Option Addr
  cap : Nat
def SG.F (x : SG) : List Nat := x.p :: blkOf x.ad
def SG.l (x : SG) : List Nat := elems x.ws
structure SgOk (w : World) (x : SG) : Prop where
  at_ : SetAt w x.p x.ws x.ad x.cap
  tr : Tr x.ws
def oF : Option SG → List Nat
  | none => []
  | some x => x.F
def oL (o : Option SG) : List Nat := match o with
  | none => []
  | some x => x.l
abbrev oV (o : Option SG) : Value := .pointer (o.map fun x => ⟨x.p, 0, none⟩)
def OgOk (w : World) (o : Option SG) : Prop := ∀ x, o = some x → SgOk w x
theorem SgOk.kp {w' : World} {x : SG} {S : List Nat} (h : SgOk w x) (hk : Kp S w w') (hS : ∀ b, b ∈ x.F → b ∉ S) : SgOk w' x := ⟨h.at_.kp hk hS, h.tr⟩
theorem OgOk.kp {w' : World} {o : Option SG} {S : List Nat} (h : OgOk w o) (hk : Kp S w w') (hS : ∀ b, b ∈ oF o → b ∉ S) : OgOk w' o := fun x hx => (h x hx).kp hk (fun b hb => hS b (by rw [hx]; exact hb))
theorem SgOk.lt {x : SG} (h : SgOk w x) : ∀ b, b ∈ x.F → b < w.heap.size := h.at_.lt
theorem OgOk.lt {o : Option SG} (h : OgOk w o) : ∀ b, b ∈ oF o → b < w.heap.size := fun b hb => by
  cases o with
  | none => simp [oF] at hb
  | some x => exact (h x rfl).lt b hb
theorem SgOk.far {x : SG} (h : SgOk w x) : 0 ∉ x.F := h.at_.far
theorem OgOk.none : OgOk w none := fun _ h => by cases h
/-- what a call leaves of a set -/
structure SgTo (w : World) (x : SG) (w' : World) (x' : SG) (l : List Nat) : Prop where
  ok : SgOk w' x'
  p : x'.p = x.p
  l : x'.l = l
  kp : Kp x.F w w'
  new : ∀ b, b ∈ x'.F → b ∈ x.F ∨ w.heap.size ≤ b
theorem SgTo.of {x : SG} {w' : World} {ws' : List Nat} {ad' : Option Addr} {cap' : Nat} {l : List Nat} (h : SetTo w x.p x.ad w' ws' ad' cap') (ht : Tr ws') (hl : elems ws' = l) : SgTo w x w' ⟨x.p, ws', ad', cap'⟩ l :=
  ⟨⟨h.at_, ht⟩, rfl, hl, h.kp, fun b hb => by
    rcases List.mem_cons.1 hb with rfl | hb
    · exact .inl (by simp [SG.F])
    · rcases h.new b hb with h1 | h1
      · exact .inl (List.mem_cons_of_mem _ h1)
      · exact .inr h1⟩
theorem sPut (hT : TabW w) {x : SG} (h : SgOk w x) {k : Nat} (hk : k < 1048576) : Ret Tryd.prog 35 [ptr x.p, I k] w (fun v w' => v = I 0 ∧ ∃ x', SgTo w x w' x' (withL x.l k)) :=
  (Put_ret hT h.at_ hk).mono fun v w' ⟨h1, ad', cap', h2⟩ => ⟨h1, _, SgTo.of h2 (tr_putW h.at_.ok h.tr k) (elems_putW _ _)⟩
theorem sDel {x : SG} (h : SgOk w x) {k : Nat} (hk : k < 1048576) : Ret Tryd.prog 36 [ptr x.p, I k] w (fun v w' => v = I 0 ∧ ∃ x', SgTo w x w' x' (x.l.filter fun y => decide (y ≠ k))) :=
  (Del_ret h.at_ hk).mono fun v w' ⟨h1, h2⟩ => ⟨h1, _, SgTo.of h2 (tr_delW h.tr k) (elems_delW h.at_.ok k)⟩
theorem elems_keepF (ws vs : List Nat) : elems (keepW ws vs) = (elems ws).filter fun y => decide (y ∈ elems vs) :=
  sorted_ext (elems_sorted _) ((elems_sorted _).filter _) fun x => by
    rw [List.mem_filter, mem_elems, mem_elems, bit_keepW, Bool.and_eq_true, decide_eq_true_eq, mem_elems]
theorem sKeep {x y : SG} (h : SgOk w x) (k : SgOk w y) (hd : ∀ b, b ∈ x.F → b ∉ y.F) : Ret Tryd.prog 68 [ptr x.p, ptr y.p] w (fun v w' => v = I 0 ∧ ∃ x', SgTo w x w' x' (x.l.filter fun z => decide (z ∈ y.l))) :=
  (Keep_ret h.at_ k.at_ (fun b hb hb2 => hd b hb2 hb)).mono fun v w' ⟨h1, h2⟩ => ⟨h1, _, SgTo.of h2 (tr_trim _) (elems_keepF _ _)⟩
theorem sCopy (hT : TabW w) {x : SG} (h : SgOk w x) : Ret Tryd.prog 51 [ptr x.p] w (fun v w' => ∃ x', v = ptr x'.p ∧ SgOk w' x' ∧ x'.l = x.l ∧ Kp [] w w' ∧ ∀ b, b ∈ x'.F → w.heap.size ≤ b) :=
  (Copy_ret hT h.at_).mono fun v w' ⟨p', ad', cap', h1, h2⟩ => ⟨⟨p', x.ws, ad', cap'⟩, h1, ⟨h2.at_, h.tr⟩, rfl, h2.kp, h2.new⟩
theorem sLen {x : SG} (h : SgOk w x) : Ret Tryd.prog 69 [ptr x.p] w (fun v w' => v = I x.l.length ∧ w' = w) := Len_ret h.at_
theorem sList (hT : TabW w) {o : Option SG} (h : OgOk w o) : Ret Tryd.prog 39 [oV o] w (fun v w' => ∃ ad' cap', v = .slice ad' (oL o).length cap' ∧ NewS w 3 w' ad' (oL o).length cap' ((oL o).map encI)) := by
  cases o with
  | none => exact List_nil hT
  | some x => exact List_ret hT (h x rfl).at_
theorem sNew (hT : TabW w) : Ret Tryd.prog 65 [.slice none 0 0] w (fun v w' => ∃ x', v = .tuple #[ptr x'.p, I 0] ∧ SgOk w' x' ∧ x'.l = [] ∧ Kp [] w w' ∧ ∀ b, b ∈ x'.F → w.heap.size ≤ b) := by
  refine (New_ret hT (l := []) (ad := none) (cap := 0) rfl (by simp)).mono fun v w' h => ?_
  rcases h with ⟨_, p, ad', cap', h2, h3⟩ | ⟨h1, _, _⟩
  · exact ⟨⟨p, [], ad', cap'⟩, h2, ⟨h3.at_, tr_nil⟩, rfl, h3.kp, h3.new⟩
  · exact absurd h1 (by simp [allOk])
/-! ### A keeper -/
structure VarG where
  ph : Int
  th : Int
  kp : Option SG
  ca : Option SG
  wa : Bool
  at_ : Int
abbrev varC (v : VarG) : List Value := [I v.ph, I v.th, oV v.kp, oV v.ca, .bool v.wa, I v.at_]
def varsC (l : List VarG) : List Value := l.flatMap varC
structure KG where
  kp : Nat
  ck : CkG
  mh : Nat
  vad : Option Addr
  vcap : Nat
  H : Int → Option SG
  vars : List VarG
inductive Ix where
  | core
  | held (t : Int)
  | keep (v : Nat)
  | cand (v : Nat)
def KG.core (g : KG) : List Nat := g.kp :: g.mh :: (g.ck.F ++ blkOf g.vad)
def KG.D (g : KG) : Ix → List Nat
  | .core => g.core
  | .held t => oF (g.H t)
  | .keep v => (g.vars[v]?.map fun (x : VarG) => oF x.kp).getD []
  | .cand v => (g.vars[v]?.map fun (x : VarG) => oF x.ca).getD []
abbrev kgC (g : KG) : List Value := [ptr g.ck.p, .map (some g.mh), .slice g.vad g.vars.length g.vcap]
def mapH (H : Int → Option SG) (t : Int) : Option Value := (H t).map fun x => ptr x.p
structure KAt (w : World) (g : KG) (s : Shp) (c : Ck) : Prop where
  hdr : Blk w g.kp (kgC g) 73
  ck : CkAt w g.ck s c
  mh : MapI w g.mh (mapH g.H)
  vs : OwnS w 91 6 g.vad g.vars.length g.vcap (varsC g.vars)
  nv : (g.vars.length : Int) = s.va
  held : ∀ t, OgOk w (g.H t)
  keep : ∀ (v : Nat) (x : VarG), g.vars[v]? = some x → OgOk w x.kp
  cand : ∀ (v : Nat) (x : VarG), g.vars[v]? = some x → OgOk w x.ca
  nd : g.core.Nodup
  sep : ∀ i j b, i ≠ j → b ∈ g.D i → b ∉ g.D j
  tab : TabW w
  far : 0 ∉ g.core
section
variable {g : KG} {s : Shp} {c : Ck}
theorem KAt.lt (h : KAt w g s c) : ∀ i b, b ∈ g.D i → b < w.heap.size := by
  intro i b hb
  cases i with
  | core =>
    simp only [KG.D, KG.core, List.mem_cons, List.mem_append] at hb
    rcases hb with rfl | rfl | hb | hb
    · exact h.hdr.lt
    · exact h.mh.lt
    · exact h.ck.toCkM.lt b hb
    · exact h.vs.lt b hb
  | held t => exact (h.held t).lt b hb
  | keep v =>
    simp only [KG.D] at hb
    cases hx : g.vars[v]? with
    | none => rw [hx] at hb; simp at hb
    | some x => rw [hx] at hb; exact (h.keep v x hx).lt b hb
  | cand v =>
    simp only [KG.D] at hb
    cases hx : g.vars[v]? with
    | none => rw [hx] at hb; simp at hb
    | some x => rw [hx] at hb; exact (h.cand v x hx).lt b hb
theorem KAt.kp (h : KAt w g s c) {w' : World} {S : List Nat} (hk : Kp S w w') (hS : ∀ i b, b ∈ g.D i → b ∉ S) (hT : 0 ∉ S) : KAt w' g s c where
  hdr := hk.blk (hS .core g.kp (by simp [KG.D, KG.core])) h.hdr
  ck := h.ck.kp hk (fun b hb => hS .core b (by simp [KG.D, KG.core, hb]))
  mh := h.mh.kp hk (hS .core _ (by simp [KG.D, KG.core]))
  vs := h.vs.kp hk (fun b hb => hS .core b (by simp [KG.D, KG.core, hb]))
  nv := h.nv
  held t := (h.held t).kp hk (fun b hb => hS (.held t) b hb)
  keep v x hx := (h.keep v x hx).kp hk (fun b hb => hS (.keep v) b (by simp only [KG.D, hx]; exact hb))
  cand v x hx := (h.cand v x hx).kp hk (fun b hb => hS (.cand v) b (by simp only [KG.D, hx]; exact hb))
  nd := h.nd
  sep := h.sep
  tab := h.tab.kp hk hT
  far := h.far
theorem KAt.kp0 (h : KAt w g s c) {w' : World} (hk : Kp [] w w') : KAt w' g s c := h.kp hk (by simp) (by simp)
theorem KAt.sm (h : KAt w g s c) {w' : World} (hk : Sm w w') : KAt w' g s c := h.kp0 (hk.kp [])
end
end Go.Vc
/- lockset: frames; New, there, holds. -/
namespace Go.Vc
open Go Go.Proofs
set_option maxRecDepth 10000
variable {w : World}
/-- of the old blocks none but those told has turned -/
structure Kq (S : Nat → Prop) (w w' : World) : Prop where
  os : w'.os = w.os
  tape : w'.tape = w.tape
  output : w'.output = w.output
  size : w.heap.size ≤ w'.heap.size
  at_ : ∀ k, k < w.heap.size → ¬ S k → w'.heap[k]? = w.heap[k]?
theorem Kp.kq {S : List Nat} {w' : World} (h : Kp S w w') {Q : Nat → Prop} (hs : ∀ b, b ∈ S → Q b) : Kq Q w w' := ⟨h.os, h.tape, h.output, h.size, fun k hk hq => h.at_ k hk (fun hb => hq (hs k hb))⟩
theorem Kq.refl (S : Nat → Prop) (w : World) : Kq S w w := ⟨rfl, rfl, rfl, Nat.le_refl _, fun _ _ _ => rfl⟩
/-- first this, then what touches of the old blocks no more -/
theorem Kq.trans {S Q : Nat → Prop} {w1 w2 : World} (h : Kq S w w1) (k : Kq Q w1 w2) (hq : ∀ b, Q b → S b ∨ w.heap.size ≤ b) : Kq S w w2 :=
  ⟨k.os.trans h.os, k.tape.trans h.tape, k.output.trans h.output, Nat.le_trans h.size k.size, fun i hi hn => (k.at_ i (Nat.lt_of_lt_of_le hi h.size) (fun hb => by
    rcases hq i hb with h1 | h1
    · exact hn h1
    · omega)).trans (h.at_ i hi hn)⟩
theorem Kq.kp0 {S : Nat → Prop} {w0 w' : World} (h : Kq S w w') (k : Kp [] w0 w) (hs : ∀ b, S b → w0.heap.size ≤ b) : Kp [] w0 w' :=
  ⟨h.os.trans k.os, h.tape.trans k.tape, h.output.trans k.output, Nat.le_trans k.size h.size, fun i hi _ => (h.at_ i (Nat.lt_of_lt_of_le hi k.size) (fun hb => by have := hs i hb; omega)).trans (k.at_ i hi (by simp))⟩
theorem ReadS.kq {ad : Option Addr} {xs : List Value} {w' : World} (h : ReadS w ad xs) {S : Nat → Prop} (hk : Kq S w w') (hd : ∀ b, b ∈ blkOf ad → ¬ S b) : ReadS w' ad xs := by
  by_cases hx : 0 < xs.length
  · obtain ⟨b, off, rfl, hb, hc⟩ := h.at_ hx
    refine ReadS.mk fun i v hv => ?_
    rw [← hc i v hv]
    exact World.cell?_of_block (hk.at_ b hb (hd b (by simp [blkOf])))
  · have e : xs = [] := List.eq_nil_of_length_eq_zero (by omega)
    subst e
    cases ad with
    | none => rfl
    | some ad => intro i v hv; simp at hv
def KG.In (g : KG) (b : Nat) : Prop := ∃ i, b ∈ g.D i
/-- what is written to: all but the shape's parties, which copies share -/
def KG.Wr (g : KG) (b : Nat) : Prop := g.In b ∧ b ∉ blkOf g.ck.pad
/-- what a call leaves of a keeper -/
structure KTo (w : World) (g : KG) (w' : World) (g' : KG) : Prop where
  kq : Kq g.In w w'
  new : ∀ b, g'.In b → g.In b ∨ w.heap.size ≤ b
  kp : g'.kp = g.kp
  kw : Kq g.Wr w w'
  pad : g'.ck.pad = g.ck.pad
theorem KTo.refl (w : World) (g : KG) : KTo w g w g := ⟨Kq.refl _ _, fun b hb => .inl hb, rfl, Kq.refl _ _, rfl⟩
theorem KTo.trans {w1 w2 : World} {g g1 g2 : KG} (h : KTo w g w1 g1) (k : KTo w1 g1 w2 g2) : KTo w g w2 g2 :=
  ⟨h.kq.trans k.kq h.new, fun b hb => by
    rcases k.new b hb with h1 | h1
    · exact h.new b h1
    · exact .inr (Nat.le_trans h.kq.size h1), k.kp.trans h.kp, h.kw.trans k.kw (fun b hb => by
    rcases h.new b hb.1 with h1 | h1
    · exact .inl ⟨h1, by rw [← h.pad]; exact hb.2⟩
    · exact .inr h1), k.pad.trans h.pad⟩
theorem KTo.of0 {w' : World} {g : KG} (k : Kp [] w w') : KTo w g w' g := ⟨k.kq (by simp), fun b hb => .inl hb, rfl, k.kq (by simp), rfl⟩
section
variable {g : KG} {s : Shp} {c : Ck}
theorem kthere_ret (h : KAt w g s c) : Ret Tryd.prog 31 [ptr g.kp] w (fun v w' => v = .bool true ∧ w' = w) := by
  refine enter Tryd.call31 Tryd.func31 rfl rfl rfl rfl ?_
  (repeat first|refine zA ?_|refine zg ?_|refine zo rfl rfl trivial ?_|refine zn ?_|refine zT rfl rfl rfl ?_)
  refine o_load (v := ptr g.ck.p) rfl h.hdr rfl rfl rfl rfl rfl ?_
  (repeat first|refine zo rfl rfl trivial ?_|refine zn ?_|refine zr ?_)
  exact ⟨_, rfl, rfl, rfl⟩
theorem varsC_zero (n : Nat) : varsC (List.replicate n ⟨0, 0, none, none, false, 0⟩) = (List.replicate n [I 0, I 0, .pointer none, .pointer none, .bool false, I 0]).flatten := by
  induction n with
  | zero => rfl
  | succ n ih =>
    have e1 : ∀ x t, varsC (x :: t) = varC x ++ varsC t := fun x t => by simp [varsC]
    rw [List.replicate_succ, e1, ih, List.replicate_succ, List.flatten_cons]; rfl
theorem varsC_len (l : List VarG) : (varsC l).length = l.length * 6 := by
  induction l with
  | nil => rfl
  | cons x r ih => unfold varsC at *; rw [List.flatMap_cons, List.length_append, ih]; simp [varC]; omega
def newKG (kp : Nat) (ck : CkG) (mh vb : Nat) (n : Nat) : KG := ⟨kp, ck, mh, some ⟨vb, 0, none⟩, n, fun _ => none, List.replicate n ⟨0, 0, none, none, false, 0⟩⟩
set_option maxHeartbeats 1600000 in
theorem kNew_ret (hT : TabW w) {pad : Option Addr} {cap : Nat} (hr : ReadS w pad (s.pa.map I)) (hl : s.pa.length ≤ 1048576) :
    Ret Tryd.prog 8 [.agg ⟨shC s pad cap⟩] w (fun v w' => (shapeB s = false ∧ v = .tuple #[.pointer none, I 5] ∧ Kp [] w w') ∨
      (shapeB s = true ∧ ∃ kp ck mh vb, v = .tuple #[ptr kp, I 0] ∧ KAt w' (newKG kp ck mh vb s.va.toNat) s (newC s) ∧ Kp [] w w' ∧ ∀ b, (newKG kp ck mh vb s.va.toNat).In b → w.heap.size ≤ b)) := by
  refine enter Tryd.call8 Tryd.func8 rfl rfl rfl rfl ?_
  (repeat first|refine zA ?_|refine zg ?_)
  refine o_box rfl rfl rfl ?_
  intro bx w1 hbx hu1
  have hB1 : Blk w1 bx (shC s pad cap) 29 := hu1.blk
  have k1 : Kp [] w w1 := hu1.kp [] (.inr (by omega))
  have hr1 := hr.kp k1 (by simp)
  (repeat first|refine zA ?_|refine zg ?_|refine zo rfl rfl trivial ?_|refine zn ?_)
  refine o_loadA (vs := shC s pad cap) rfl (fun j v hv => ?_) rfl rfl rfl rfl rfl rfl ?_
  · rw [Nat.zero_add]; exact hB1.cell hv
  refine o_call (fNew_ret hr1 hl) rfl rfl rfl ?_
  rintro v w2 (⟨hs, rfl, k2⟩ | ⟨hs, ck, rfl, hck, k2, hn2⟩)
  · (repeat first|refine zA ?_|refine zB ?_|refine zg ?_|refine zo rfl rfl trivial ?_|refine zn ?_|refine zr ?_|refine zt rfl ?_)
    exact ⟨_, rfl, .inl ⟨hs, rfl, k1.trans k2⟩⟩
  · have hB2 := k2.blk (by simp) hB1
    have hso := (shapeB_iff s).1 hs
    have hva := hso.2.1
    (repeat first|refine zA ?_|refine zB ?_|refine zg ?_|refine zo rfl rfl trivial ?_|refine zn ?_|refine zk ?_|refine zf rfl ?_)
    refine o_makeMapI rfl rfl ?_
    intro mh w3 hmh k3 z3 hm3
    (repeat refine zo rfl rfl trivial ?_)
    have hB3 := k3.blk (by simp) hB2
    refine o_load (v := I s.va) rfl hB3 rfl rfl rfl rfl rfl ?_
    refine o_makeN (len := s.va) (cap := s.va) (kl := .i64) (kc := .i64) rfl rfl rfl rfl rfl (by omega) (by omega) (by omega) (by omega) rfl rfl ?_
    intro vb w4 hvb hu4
    have k4 := hu4.kp [] (.inr (by omega))
    refine o_build [ptr ck.p, .map (some mh), .slice (some ⟨vb, 0, none⟩) s.va.toNat s.va.toNat] rfl rfl rfl rfl rfl rfl rfl ?_
    refine o_box rfl rfl rfl ?_
    intro kb w5 hkb hu5
    have k5 := hu5.kp [] (.inr (by omega))
    (repeat first|refine zo rfl rfl trivial ?_|refine zn ?_|refine zr ?_)
    have k25 := (k3.trans k4).trans k5
    have k05 := (k1.trans k2).trans k25
    have z1 := k1.size
    have z2 := k2.size
    have z4 := hu4.lt
    have z5 := hu5.lt
    have z34 := k4.size
    have hD : ∀ i b, b ∈ (newKG kb ck mh vb s.va.toNat).D i → i = .core := by
      intro i b hb
      cases i with
      | core => rfl
      | held t => simp [KG.D, newKG, oF] at hb
      | keep v =>
        simp only [KG.D, newKG, List.getElem?_replicate] at hb
        split at hb <;> simp [oF] at hb
      | cand v =>
        simp only [KG.D, newKG, List.getElem?_replicate] at hb
        split at hb <;> simp [oF] at hb
    have hck2 := hck.toCkM.lt
    have hcore : ∀ b, b ∈ (newKG kb ck mh vb s.va.toNat).core → w1.heap.size ≤ b := by
      intro b hb
      simp only [KG.core, newKG, blkOf, List.mem_cons, List.mem_append, List.not_mem_nil, or_false] at hb
      rcases hb with rfl | rfl | hb | rfl
      · omega
      · omega
      · exact hn2 b hb
      · omega
    refine ⟨_, rfl, .inr ⟨hs, kb, ck, mh, vb, rfl, ?_, k05, ?_⟩⟩
    · refine ⟨by simp only [kgC, newKG, List.length_replicate]; exact hu5.blk, hck.kp0 k25, ?_, ?_, by simp [newKG]; omega, fun t => OgOk.none, fun v x hx => ?_, fun v x hx => ?_, ?_, fun i j b hij hb hb2 => ?_, hT.kp k05 (by simp), fun hb => ?_⟩
      · exact (hm3.kp k4 (by simp)).kp k5 (by simp)
      · refine ⟨by rw [varsC_len], rfl, rfl, by simp [newKG], by simp only [newKG, maxLen]; omega, [], ?_, ?_⟩
        · rw [List.append_nil]
          have e := varsC_zero s.va.toNat
          have := k5.blk (by simp) hu4.blk
          simp only [newKG]
          rw [e]; exact this
        · rw [List.append_nil, varsC_len]; simp [newKG]
      · simp only [newKG, List.getElem?_replicate] at hx
        split at hx
        · cases hx; exact OgOk.none
        · cases hx
      · simp only [newKG, List.getElem?_replicate] at hx
        split at hx
        · cases hx; exact OgOk.none
        · cases hx
      · show (kb :: mh :: (ck.F ++ [vb])).Nodup
        simp only [List.nodup_cons, List.mem_cons, List.mem_append, List.not_mem_nil, or_false, not_or, List.nodup_append]
        refine ⟨⟨by omega, fun hb => by have := hck2 _ hb; omega, by omega⟩, ⟨fun hb => by have := hck2 _ hb; omega, by omega⟩, hck.nd, by simp, fun a ha b hb => ?_⟩
        obtain rfl : b = vb := by simpa using hb
        have := hck2 _ ha; omega
      · exact hij ((hD i b hb).trans (hD j b hb2).symm)
      · have := hcore _ hb; have := hT.lt; omega
    · rintro b ⟨i, hb⟩
      obtain rfl := hD i b hb
      have := hcore b hb; omega
/-- another set is held by a thread: new, or the same block turned -/
theorem KAt.setH {w' : World} (h : KAt w g s c) {t : Int} {x' : SG} (hx : SgOk w' x') (hk : Kp (g.mh :: oF (g.H t)) w w') (hn : ∀ b, b ∈ x'.F → b ∈ oF (g.H t) ∨ w.heap.size ≤ b) (hm : MapI w' g.mh (mapH (upT g.H t (some x')))) :
    KAt w' { g with H := upT g.H t (some x') } s c := by
  have hin : ∀ b, b ∈ oF (g.H t) → b ∈ g.D (.held t) := fun b hb => hb
  have hmc : g.mh ∈ g.D .core := by simp [KG.D, KG.core]
  have nin : ∀ i, i ≠ .held t → i ≠ .core → ∀ b, b ∈ g.D i → b ∉ g.mh :: oF (g.H t) := fun i hi hic b hb hb2 => by
    rcases List.mem_cons.1 hb2 with rfl | hb2
    · exact h.sep i .core _ hic hb hmc
    · exact h.sep i (.held t) b hi hb hb2
  have ninc : ∀ b, b ∈ g.kp :: (g.ck.F ++ blkOf g.vad) → b ∉ g.mh :: oF (g.H t) := fun b hb hb2 => by
    have hbc : b ∈ g.D .core := by
      simp only [KG.D, KG.core, List.mem_cons, List.mem_append] at hb ⊢
      rcases hb with hb | hb | hb
      · exact .inl hb
      · exact .inr (.inr (.inl hb))
      · exact .inr (.inr (.inr hb))
    rcases List.mem_cons.1 hb2 with rfl | hb2
    · have hnd := h.nd
      simp only [KG.core, List.nodup_cons, List.mem_cons, List.mem_append, not_or] at hnd
      simp only [List.mem_cons, List.mem_append] at hb
      rcases hb with hb | hb | hb
      · exact hnd.1.1 hb.symm
      · exact hnd.2.1.1 hb
      · exact hnd.2.1.2 hb
    · exact h.sep .core (.held t) b (by simp) hbc hb2
  have hD : ∀ i, i ≠ .held t → ({ g with H := upT g.H t (some x') } : KG).D i = g.D i := by
    intro i hi
    cases i with
    | core => rfl
    | keep v => rfl
    | cand v => rfl
    | held u =>
      have hu : u ≠ t := fun e => hi (by rw [e])
      simp only [KG.D, upT, if_neg hu]
  have hDt : ({ g with H := upT g.H t (some x') } : KG).D (.held t) = x'.F := by simp [KG.D, upT, oF]
  have tabD : 0 ∉ g.mh :: oF (g.H t) := fun hb => by
    rcases List.mem_cons.1 hb with e | hb
    · exact h.far (by rw [e]; simp [KG.core])
    cases hH : g.H t with
    | none => rw [hH] at hb; simp [oF] at hb
    | some x => rw [hH] at hb; exact (h.held t x hH).far hb
  refine ⟨hk.blk (ninc g.kp (by simp)) h.hdr, h.ck.kp hk (fun b hb => ninc b (by simp [hb])), hm, h.vs.kp hk (fun b hb => ninc b (by simp [hb])), h.nv, fun u => ?_, fun v x hv => ?_, fun v x hv => ?_, h.nd, fun i j b hij hb hb2 => ?_, h.tab.kp hk tabD, h.far⟩
  · by_cases hu : u = t
    · subst hu
      intro y hy
      simp only [upT, if_true, Option.some.injEq] at hy
      subst hy; exact hx
    · intro y hy
      simp only [upT, if_neg hu] at hy
      exact ((h.held u).kp hk (fun b hb => nin (.held u) (fun e => hu (by cases e; rfl)) (by simp) b hb)) y hy
  · exact (h.keep v x hv).kp hk (fun b hb => nin (.keep v) (by simp) (by simp) b (by simp only [KG.D, hv]; exact hb))
  · exact (h.cand v x hv).kp hk (fun b hb => nin (.cand v) (by simp) (by simp) b (by simp only [KG.D, hv]; exact hb))
  · by_cases hi : i = .held t
    · subst hi
      rw [hDt] at hb
      rw [hD j (fun e => hij e.symm)] at hb2
      rcases hn b hb with h1 | h1
      · exact h.sep (.held t) j b hij h1 hb2
      · have := h.lt j b hb2; omega
    · rw [hD i hi] at hb
      by_cases hj : j = .held t
      · subst hj
        rw [hDt] at hb2
        rcases hn b hb2 with h1 | h1
        · exact h.sep i (.held t) b hij hb h1
        · have := h.lt i b hb; omega
      · rw [hD j hj] at hb2; exact h.sep i j b hij hb hb2
theorem KAt.padC (h : KAt w g s c) {b : Nat} (hb : b ∈ blkOf g.ck.pad) : b ∈ g.D .core ∧ b ≠ g.kp ∧ b ≠ g.mh ∧ b ∉ blkOf g.vad := by
  have hF : b ∈ g.ck.F := by simp [CkG.F, hb]
  have hnd := h.nd
  simp only [KG.core, List.nodup_cons, List.mem_cons, List.mem_append, not_or, List.nodup_append] at hnd
  refine ⟨?_, fun e => hnd.1.2.1 (e ▸ hF), fun e => hnd.2.1.1 (e ▸ hF), fun hv => hnd.2.2.2.2 b hF b hv rfl⟩
  simp only [KG.D, KG.core, List.mem_cons, List.mem_append]
  exact .inr (.inr (.inl hF))
theorem KTo.setH {w' : World} {t : Int} {x' : SG} (h : KAt w g s c) (hk : Kp (g.mh :: oF (g.H t)) w w') (hn : ∀ b, b ∈ x'.F → b ∈ oF (g.H t) ∨ w.heap.size ≤ b) : KTo w g w' { g with H := upT g.H t (some x') } := by
  refine ⟨hk.kq (fun b hb => by
    rcases List.mem_cons.1 hb with rfl | hb
    · exact ⟨.core, by simp [KG.D, KG.core]⟩
    · exact ⟨.held t, hb⟩), fun b hb => ?_, rfl, hk.kq (fun b hb => by
    rcases List.mem_cons.1 hb with rfl | hb
    · exact ⟨⟨.core, by simp [KG.D, KG.core]⟩, fun hp => (h.padC hp).2.2.1 rfl⟩
    · exact ⟨⟨.held t, hb⟩, fun hp => h.sep .core (.held t) b (by simp) (h.padC hp).1 hb⟩), rfl⟩
  obtain ⟨i, hb⟩ := hb
  cases i with
  | core => exact .inl ⟨.core, hb⟩
  | keep v => exact .inl ⟨.keep v, hb⟩
  | cand v => exact .inl ⟨.cand v, hb⟩
  | held u =>
    by_cases hu : u = t
    · subst hu
      have hb : b ∈ x'.F := by simpa [KG.D, upT, oF] using hb
      rcases hn b hb with h1 | h1
      · exact .inl ⟨.held u, h1⟩
      · exact .inr h1
    · exact .inl ⟨.held u, by simpa [KG.D, upT, hu] using hb⟩
theorem mapH_get (H : Int → Option SG) (t : Int) : lookV (.pointer none) (mapH H t) = .tuple #[oV (H t), .bool (H t).isSome] := by
  unfold mapH; cases H t <;> rfl
theorem kHolds_ret (h : KAt w g s c) (t : Int) : Ret Tryd.prog 34 [ptr g.kp, I t] w (fun v w' => ∃ x, v = ptr x.p ∧ x.l = oL (g.H t) ∧ KAt w' { g with H := upT g.H t (some x) } s c ∧ KTo w g w' { g with H := upT g.H t (some x) }) := by
  refine enter Tryd.call34 Tryd.func34 rfl rfl rfl rfl ?_
  (repeat first|refine zA ?_|refine zg ?_|refine zo rfl rfl trivial ?_|refine zn ?_)
  refine o_load (v := .map (some g.mh)) rfl h.hdr rfl rfl rfl rfl rfl ?_
  (repeat refine zo rfl rfl trivial ?_)
  refine o_lookI2 (.tuple #[oV (g.H t), .bool (g.H t).isSome]) rfl rfl h.mh (mapH_get g.H t) rfl rfl rfl rfl rfl rfl ?_
  (repeat first|refine zA ?_|refine zB ?_|refine zg ?_|refine zo rfl rfl trivial ?_|refine zn ?_)
  cases hH : g.H t with
  | some x =>
    simp only [Option.isSome_some, Option.map_some]
    (repeat first|refine zA ?_|refine zg ?_|refine zo rfl rfl trivial ?_|refine zn ?_|refine zr ?_|refine zk ?_|refine zf rfl ?_)
    have hx := h.held t x hH
    have e : upT g.H t (some x) = g.H := by
      funext u; unfold upT
      by_cases hu : u = t
      · rw [if_pos hu, hu, hH]
      · rw [if_neg hu]
    refine ⟨_, rfl, x, rfl, rfl, ?_, ?_⟩
    · rw [e]; exact h
    · rw [e]; exact KTo.refl w g
  | none =>
    simp only [Option.isSome_none, Option.map_none]
    (repeat first|refine zA ?_|refine zg ?_|refine zt rfl ?_)
    refine o_call (sNew h.tab) rfl rfl rfl ?_
    rintro v w1 ⟨x, rfl, hx, hxl, k1, hn⟩
    have h1 := h.kp0 k1
    (repeat first|refine zg ?_|refine zo rfl rfl trivial ?_|refine zn ?_)
    refine o_load (v := .map (some g.mh)) rfl h1.hdr rfl rfl rfl rfl rfl ?_
    (repeat refine zo rfl rfl trivial ?_)
    refine o_mapSet (v := ptr x.p) rfl rfl rfl h1.mh rfl rfl rfl rfl ?_
    intro w2 hu2
    (repeat first|refine zA ?_|refine zg ?_|refine zo rfl rfl trivial ?_|refine zn ?_|refine zr ?_)
    have k2 := hu2.kp [g.mh] (.inl (by simp))
    have z1 := k1.size
    have hml := h.mh.lt
    have hmx : ∀ b, b ∈ x.F → b ∉ [g.mh] := fun b hb hb2 => by have := hn b hb; simp at hb2; omega
    have em : mapH (upT g.H t (some x)) = upF (mapH g.H) t (some (ptr x.p)) := by
      funext u; unfold mapH upT upF
      by_cases hu : u = t
      · rw [if_pos hu, if_pos hu]; rfl
      · rw [if_neg hu, if_neg hu]
    have kk : Kp (g.mh :: oF (g.H t)) w w2 := (k1.mono (by simp)).trans (k2.mono (by simp))
    have hnn : ∀ b, b ∈ x.F → b ∈ oF (g.H t) ∨ w.heap.size ≤ b := fun b hb => .inr (hn b hb)
    exact ⟨_, rfl, x, rfl, by rw [hxl]; rfl, h.setH (hx.kp k2 hmx) kk hnn (by rw [em]; exact hu2.at_), KTo.setH h kk hnn⟩
end
end Go.Vc
