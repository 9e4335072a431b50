/- bits: what BitsPlays keeps: four places, the book, all apart. -/
import Derived.Test.YtdfkhnhmcanncaaDoorBt38
import Derived.Test.YtdfkhnhmcanncaaDoorVcGr
namespace Go.Vc
open Go Go.Proofs
set_option maxRecDepth 10000
variable {w : World}

/-- a place: the program's set and the document's -/
structure Sl where
  p : Nat
  ws : List Nat
  ad : Option Addr
  cap : Nat
  q : Nat
  adr : Option Addr
  capr : Nat
abbrev sv (o : Option Sl) : Value := .pointer (o.map fun s => ⟨s.p, 0, none⟩)
abbrev rv (o : Option Sl) : Value := .pointer (o.map fun s => ⟨s.q, 0, none⟩)
def slb : Option Sl → List Nat
  | none => []
  | some s => (s.p :: blkOf s.ad) ++ (s.q :: blkOf s.adr)
structure SlOk (w : World) (s : Sl) : Prop where
  set : SetAt w s.p s.ws s.ad s.cap
  tr : Tr s.ws
  ref : RefAt w s.q (elems s.ws) s.adr s.capr
  apart : ∀ b, b ∈ s.p :: blkOf s.ad → b ∉ s.q :: blkOf s.adr
def SlAt (w : World) (o : Option Sl) : Prop := ∀ s, o = some s → SlOk w s
theorem SlOk.kp {w' : World} {s : Sl} {S : List Nat} (h : SlOk w s) (hk : Kp S w w') (hS : ∀ b, b ∈ slb (some s) → b ∉ S) : SlOk w' s :=
  ⟨h.set.kp hk (fun b hb => hS b (List.mem_append_left _ hb)), h.tr, h.ref.kp hk (fun b hb => hS b (List.mem_append_right _ hb)), h.apart⟩
theorem SlAt.kp {w' : World} {o : Option Sl} {S : List Nat} (h : SlAt w o) (hk : Kp S w w') (hS : ∀ b, b ∈ slb o → b ∉ S) : SlAt w' o := by
  rintro s rfl
  exact (h s rfl).kp hk hS
theorem SlOk.lt {s : Sl} (h : SlOk w s) : ∀ b, b ∈ slb (some s) → b < w.heap.size := fun b hb => by
  rcases List.mem_append.1 hb with hb | hb
  · exact h.set.lt b hb
  · exact h.ref.lt b hb
theorem SlAt.lt {o : Option Sl} (h : SlAt w o) : ∀ b, b ∈ slb o → b < w.heap.size := by
  intro b hb
  cases o with
  | none => simp [slb] at hb
  | some s => exact (h s rfl).lt b hb
theorem SlAt.none : SlAt w none := fun _ h => by cases h
theorem SlOk.ris {s : Sl} (h : SlOk w s) : Ris (elems s.ws) := ris_elems h.set.len

/-! ### What is apart from what -/
structure Dj (n0 n : Nat) (D : Nat → List Nat) : Prop where
  lt : ∀ i b, b ∈ D i → b < n
  sep : ∀ i j b, i ≠ j → b ∈ D i → b ∉ D j
  new : ∀ i b, i < 12 → b ∈ D i → n0 ≤ b
theorem Dj.upd {n0 n n' : Nat} {D D' : Nat → List Nat} (h : Dj n0 n D) (hn : n ≤ n') (i : Nat) (hD : ∀ j, j ≠ i → D' j = D j) (h1 : ∀ b, b ∈ D' i → b < n' ∧ (b ∈ D i ∨ ∀ j, b ∉ D j)) (h2 : i < 12 → ∀ b, b ∈ D' i → n0 ≤ b) : Dj n0 n' D' where
  lt j b hb := by
    by_cases hj : j = i
    · subst hj; exact (h1 b hb).1
    · rw [hD j hj] at hb; exact Nat.lt_of_lt_of_le (h.lt j b hb) hn
  sep j k b hjk hb := by
    by_cases hj : j = i
    · subst hj
      rw [hD k (fun e => hjk e.symm)]
      rcases (h1 b hb).2 with h3 | h3
      · exact h.sep j k b hjk h3
      · exact h3 k
    · rw [hD j hj] at hb
      by_cases hk : k = i
      · subst hk
        intro hb2
        rcases (h1 b hb2).2 with h3 | h3
        · exact h.sep j k b hjk hb h3
        · exact h3 j hb
      · rw [hD k hk]; exact h.sep j k b hjk hb
  new j b hj hb := by
    by_cases e : j = i
    · subst e; exact h2 hj b hb
    · rw [hD j e] at hb; exact h.new j b hj hb
def DD (sl : Nat → Option Sl) (W : Nat) (ad : Nat → Option Addr) (Cst : List Nat) (i : Nat) : List Nat :=
  if i < 4 then slb (sl i) else if i < 11 then blkOf (ad (i - 4)) else if i = 11 then [W] else if i = 12 then Cst else []
def up {α : Type} (f : Nat → α) (i : Nat) (x : α) (j : Nat) : α := if j = i then x else f j
theorem up_same {α : Type} (f : Nat → α) (i : Nat) (x : α) : up f i x i = x := by simp [up]
theorem up_ne {α : Type} (f : Nat → α) {i j : Nat} (x : α) (h : j ≠ i) : up f i x j = f j := by simp [up, h]
/-! ### The world's block -/
def wf (sl : Nat → Option Sl) (ad : Nat → Option Addr) (cp : Nat → Nat) (row : Nat → List Value) (j : Nat) : Value :=
  if j < 4 then sv (sl j) else if j < 8 then rv (sl (j - 4)) else .slice (ad (j - 8)) (row (j - 8)).length (cp (j - 8))
def tys (k : Nat) : TypeId := if k = 2 ∨ k = 3 then 40 else if k = 4 then 3 else if k = 5 then 35 else 22
structure PI (w0 w : World) (W : Nat) (sl : Nat → Option Sl) (ad : Nat → Option Addr) (cp : Nat → Nat) (row : Nat → List Value) (Cst : List Nat) : Prop where
  kp : Kp [] w0 w
  hdr : Blk w W (rowL 15 (wf sl ad cp row)) 90
  slots : ∀ i, i < 4 → SlAt w (sl i)
  own : ∀ k, k < 7 → OwnS w (tys k) 1 (ad k) (row k).length (cp k) (row k)
  tab : TabW w
  tabIn : 0 ∈ Cst
  dj : Dj w0.heap.size w.heap.size (DD sl W ad Cst)
section
variable {w0 : World} {W : Nat} {sl : Nat → Option Sl} {ad : Nat → Option Addr} {cp : Nat → Nat} {row : Nat → List Value} {Cst : List Nat}
theorem dd_sl {i : Nat} (h : i < 4) : DD sl W ad Cst i = slb (sl i) := by simp [DD, h]
theorem dd_ad {k : Nat} (h : k < 7) : DD sl W ad Cst (k + 4) = blkOf (ad k) := by
  unfold DD
  rw [if_neg (by omega), if_pos (by omega)]; simp
theorem dd_W : DD sl W ad Cst 11 = [W] := rfl
theorem dd_C : DD sl W ad Cst 12 = Cst := rfl
/-- what none of it lies in may turn -/
theorem PI.frame {w' : World} {S : List Nat} (h : PI w0 w W sl ad cp row Cst) (hk : Kp S w w') (hS : ∀ b, b ∈ S → ∀ i, b ∉ DD sl W ad Cst i) (h0 : ∀ b, b ∈ S → w0.heap.size ≤ b) : PI w0 w' W sl ad cp row Cst where
  kp := h.kp.since hk h0
  hdr := hk.blk (fun hb => hS W hb 11 (by rw [dd_W]; simp)) h.hdr
  slots i hi := (h.slots i hi).kp hk fun b hb hb2 => hS b hb2 i (by rw [dd_sl hi]; exact hb)
  own k hk7 := (h.own k hk7).kp hk fun b hb hb2 => hS b hb2 (k + 4) (by rw [dd_ad hk7]; exact hb)
  tab := h.tab.kp hk fun hb => hS _ hb 12 (by rw [dd_C]; exact h.tabIn)
  tabIn := h.tabIn
  dj := ⟨fun i b hb => Nat.lt_of_lt_of_le (h.dj.lt i b hb) hk.size, h.dj.sep, h.dj.new⟩
theorem PI.kp0 {w' : World} (h : PI w0 w W sl ad cp row Cst) (hk : Kp [] w w') : PI w0 w' W sl ad cp row Cst := h.frame hk (by simp) (by simp)
theorem PI.sm {w' : World} (h : PI w0 w W sl ad cp row Cst) (hk : Sm w w') : PI w0 w' W sl ad cp row Cst := h.kp0 (hk.kp [])
theorem PI.away (h : PI w0 w W sl ad cp row Cst) {b : Nat} (hb : w.heap.size ≤ b) : ∀ i, b ∉ DD sl W ad Cst i := fun i hi => by have := h.dj.lt i b hi; omega
theorem PI.cell (h : PI w0 w W sl ad cp row Cst) {j : Nat} (hj : j < 15) : w.cell? ⟨W, j, none⟩ = some (wf sl ad cp row j) := h.hdr.cell (rowL_get _ hj)
theorem PI.W_away (h : PI w0 w W sl ad cp row Cst) {i b : Nat} (hi : i ≠ 11) (hb : b ∈ DD sl W ad Cst i) : b ≠ W := fun e => h.dj.sep i 11 b hi hb (by rw [dd_W, e]; simp)
theorem PI.szW (h : PI w0 w W sl ad cp row Cst) : w0.heap.size ≤ W := h.dj.new 11 W (by omega) (by rw [dd_W]; simp)
/-- a list of the book is made longer by one -/
theorem PI.push {w1 w2 w3 : World} (h : PI w0 w W sl ad cp row Cst) {k : Nat} (hk7 : k < 7) {v : Value} {ad' : Option Addr} {cap' : Nat} (k1 : Kp [] w w1) (ho : OwnS w2 (tys k) 1 ad' ((row k).length + 1) cap' (row k ++ [v])) (k2 : Kp (blkOf (ad k)) w1 w2)
    (hnew : ∀ b, b ∈ blkOf ad' → b ∈ blkOf (ad k) ∨ w1.heap.size ≤ b)
    (hu : Upd w2 W (.cells ⟨(rowL 15 (wf sl ad cp row)).set (8 + k) (.slice ad' ((row k).length + 1) cap')⟩ 90 (0, 0)) w3) :
    PI w0 w3 W sl (up ad k ad') (up cp k cap') (up row k (row k ++ [v])) Cst ∧ Kp (W :: blkOf (ad k)) w w3 := by
  have h1 := h.kp0 k1
  have hk12 : Kp (blkOf (ad k)) w w2 := (k1.mono (by simp)).trans k2
  have hk13 : Kp (W :: blkOf (ad k)) w w3 := (hk12.mono fun b hb => List.mem_cons_of_mem _ hb).trans (hu.kp _ (.inl (by simp)))
  have hin : ∀ b, b ∈ blkOf (ad k) → b ∈ DD sl W ad Cst (k + 4) := fun b hb => by rw [dd_ad hk7]; exact hb
  have hWk : W ∉ blkOf (ad k) := fun hb => h.W_away (i := k + 4) (by omega) (hin _ hb) rfl
  have hWad' : W ∉ blkOf ad' := fun hb => by
    rcases hnew W hb with h3 | h3
    · exact hWk h3
    · have := h1.dj.lt 11 W (by rw [dd_W]; simp); omega
  refine ⟨⟨?_, ?_, ?_, ?_, ?_, h.tabIn, ?_⟩, hk13⟩
  · refine h.kp.since hk13 fun b hb => ?_
    rcases List.mem_cons.1 hb with rfl | hb
    · exact h.szW
    · exact h.dj.new (k + 4) b (by omega) (hin b hb)
  · have hb := hu.blk
    rw [rowL_set] at hb
    have e : rowL 15 (fun x => if x = 8 + k then Value.slice ad' ((row k).length + 1) cap' else wf sl ad cp row x) = rowL 15 (wf sl (up ad k ad') (up cp k cap') (up row k (row k ++ [v]))) := by
      refine rowL_congr fun j hj => ?_
      by_cases hjk : j = 8 + k
      · subst hjk
        have e8 : 8 + k - 8 = k := by omega
        unfold wf
        rw [if_pos rfl, if_neg (by omega), if_neg (by omega), e8, up_same, up_same, up_same, List.length_append]; rfl
      · rw [if_neg hjk]
        unfold wf
        by_cases h4 : j < 4
        · rw [if_pos h4, if_pos h4]
        · rw [if_neg h4, if_neg h4]
          by_cases h8 : j < 8
          · rw [if_pos h8, if_pos h8]
          · rw [if_neg h8, if_neg h8, up_ne _ _ (by omega), up_ne _ _ (by omega), up_ne _ _ (by omega)]
    rw [e] at hb
    exact hb
  · refine fun i hi => (h.slots i hi).kp hk13 fun b hb hb2 => ?_
    have hbi : b ∈ DD sl W ad Cst i := by rw [dd_sl hi]; exact hb
    rcases List.mem_cons.1 hb2 with e | hb2
    · exact h.W_away (by omega) hbi e
    · exact h.dj.sep i (k + 4) b (by omega) hbi (hin b hb2)
  · intro j hj
    by_cases hjk : j = k
    · subst hjk
      rw [up_same, up_same, up_same, List.length_append]
      exact ho.upd hu hWad'
    · rw [up_ne _ _ hjk, up_ne _ _ hjk, up_ne _ _ hjk]
      refine (h.own j hj).kp hk13 fun b hb hb2 => ?_
      have hbi : b ∈ DD sl W ad Cst (j + 4) := by rw [dd_ad hj]; exact hb
      rcases List.mem_cons.1 hb2 with e | hb2
      · exact h.W_away (by omega) hbi e
      · exact h.dj.sep (j + 4) (k + 4) b (by omega) hbi (hin b hb2)
  · refine h.tab.kp hk13 fun hb => ?_
    have hbi : 0 ∈ DD sl W ad Cst 12 := by rw [dd_C]; exact h.tabIn
    rcases List.mem_cons.1 hb with e | hb2
    · exact h.W_away (by omega) hbi e
    · exact h.dj.sep 12 (k + 4) _ (by omega) hbi (hin _ hb2)
  · refine h.dj.upd hk13.size (k + 4) (fun j hj => ?_) (fun b hb => ?_) (fun _ b hb => ?_)
    · unfold DD
      by_cases h4 : j < 4
      · rw [if_pos h4, if_pos h4]
      · rw [if_neg h4, if_neg h4]
        by_cases h11 : j < 11
        · rw [if_pos h11, if_pos h11, up_ne _ _ (by omega)]
        · rw [if_neg h11, if_neg h11]
    · rw [dd_ad hk7, up_same] at hb
      have hl := (ho.upd hu hWad').lt b hb
      refine ⟨hl, ?_⟩
      rcases hnew b hb with h3 | h3
      · exact .inl (hin b h3)
      · exact .inr (h1.away h3)
    · rw [dd_ad hk7, up_same] at hb
      rcases hnew b hb with h3 | h3
      · exact h.dj.new (k + 4) b (by omega) (hin b h3)
      · have := h.kp.size; have := k1.size; omega
/-- blocks of nobody's are kept from now on -/
theorem PI.keep (h : PI w0 w W sl ad cp row Cst) {F : List Nat} (hF : ∀ b, b ∈ F → b < w.heap.size ∧ ∀ i, b ∉ DD sl W ad Cst i) : PI w0 w W sl ad cp row (F ++ Cst) where
  kp := h.kp
  hdr := h.hdr
  slots := h.slots
  own := h.own
  tab := h.tab
  tabIn := List.mem_append_right _ h.tabIn
  dj := h.dj.upd (Nat.le_refl _) 12 (fun j hj => by unfold DD; rw [if_neg hj, if_neg hj]) (fun b hb => by
    rw [dd_C] at hb
    rcases List.mem_append.1 hb with hb | hb
    · exact ⟨(hF b hb).1, .inr (hF b hb).2⟩
    · exact ⟨h.dj.lt 12 b (by rw [dd_C]; exact hb), .inl (by rw [dd_C]; exact hb)⟩) (fun h12 => by omega)
/-- a place's sets have turned in their own memory -/
theorem PI.turn {w' : World} (h : PI w0 w W sl ad cp row Cst) {i : Nat} (hi : i < 4) {s' : Option Sl} (hk : Kp (slb (sl i)) w w') (hs : SlAt w' s') (hsv : sv s' = sv (sl i)) (hrv : rv s' = rv (sl i)) (hnew : ∀ b, b ∈ slb s' → b ∈ slb (sl i) ∨ w.heap.size ≤ b) :
    PI w0 w' W (up sl i s') ad cp row Cst := by
  have hin : ∀ b, b ∈ slb (sl i) → b ∈ DD sl W ad Cst i := fun b hb => by rw [dd_sl hi]; exact hb
  refine ⟨?_, ?_, ?_, ?_, ?_, h.tabIn, ?_⟩
  · exact h.kp.since hk fun b hb => h.dj.new i b (by omega) (hin b hb)
  · have e : rowL 15 (wf (up sl i s') ad cp row) = rowL 15 (wf sl ad cp row) := by
      refine rowL_congr fun j hj => ?_
      unfold wf
      by_cases h4 : j < 4
      · rw [if_pos h4, if_pos h4]
        by_cases hji : j = i
        · subst hji; rw [up_same, hsv]
        · rw [up_ne _ _ hji]
      · rw [if_neg h4, if_neg h4]
        by_cases h8 : j < 8
        · rw [if_pos h8, if_pos h8]
          by_cases hji : j - 4 = i
          · rw [hji, up_same, hrv]
          · rw [up_ne _ _ hji]
        · rw [if_neg h8, if_neg h8]
    rw [e]
    exact hk.blk (fun hb => h.W_away (by omega) (hin _ hb) rfl) h.hdr
  · intro j hj
    by_cases hji : j = i
    · subst hji; rw [up_same]; exact hs
    · rw [up_ne _ _ hji]
      exact (h.slots j hj).kp hk fun b hb hb2 => h.dj.sep j i b hji (by rw [dd_sl hj]; exact hb) (hin b hb2)
  · exact fun k hk7 => (h.own k hk7).kp hk fun b hb hb2 => h.dj.sep (k + 4) i b (by omega) (by rw [dd_ad hk7]; exact hb) (hin b hb2)
  · exact h.tab.kp hk fun hb => h.dj.sep 12 i _ (by omega) (by rw [dd_C]; exact h.tabIn) (hin _ hb)
  · refine h.dj.upd hk.size i (fun j hj => ?_) (fun b hb => ?_) (fun _ b hb => ?_)
    · unfold DD
      by_cases h4 : j < 4
      · rw [if_pos h4, if_pos h4, up_ne _ _ hj]
      · rw [if_neg h4, if_neg h4]
    · rw [dd_sl hi, up_same] at hb
      refine ⟨hs.lt b hb, ?_⟩
      rcases hnew b hb with h3 | h3
      · exact .inl (hin b h3)
      · exact .inr (h.away h3)
    · rw [dd_sl hi, up_same] at hb
      rcases hnew b hb with h3 | h3
      · exact h.dj.new i b (by omega) (hin b h3)
      · have := h.kp.size; omega
/-- another pair is laid into a place -/
theorem PI.place {w2 : World} (h : PI w0 w W sl ad cp row Cst) {i : Nat} (hi : i < 4) {s' : Option Sl} (hs : SlAt w2 s') (haw : ∀ b, b ∈ slb s' → w0.heap.size ≤ b ∧ ∀ j, b ∉ DD sl W ad Cst j) (hk : Kp [W] w w2)
    (hb : Blk w2 W (((rowL 15 (wf sl ad cp row)).set i (sv s')).set (4 + i) (rv s')) 90) :
    PI w0 w2 W (up sl i s') ad cp row Cst := by
  refine ⟨?_, ?_, ?_, ?_, ?_, h.tabIn, ?_⟩
  · exact h.kp.since hk fun b hb => by simp at hb; rw [hb]; exact h.szW
  · rw [rowL_set, rowL_set] at hb
    have e : rowL 15 (fun x => if x = 4 + i then rv s' else if x = i then sv s' else wf sl ad cp row x) = rowL 15 (wf (up sl i s') ad cp row) := by
      refine rowL_congr fun j hj => ?_
      unfold wf
      by_cases h4 : j < 4
      · rw [if_neg (by omega), if_pos h4, if_pos h4]
        by_cases hji : j = i
        · subst hji; rw [if_pos rfl, up_same]
        · rw [if_neg hji, up_ne _ _ hji]
      · rw [if_neg h4, if_neg h4]
        by_cases h8 : j < 8
        · rw [if_pos h8, if_pos h8]
          by_cases hji : j = 4 + i
          · subst hji
            rw [if_pos rfl, Nat.add_sub_cancel_left, up_same]
          · rw [if_neg hji, if_neg (by omega), up_ne _ _ (by omega)]
        · rw [if_neg h8, if_neg h8, if_neg (by omega), if_neg (by omega)]
    rw [e] at hb
    exact hb
  · intro j hj
    by_cases hji : j = i
    · subst hji; rw [up_same]
      exact hs
    · rw [up_ne _ _ hji]
      exact (h.slots j hj).kp hk fun b hb hb2 => h.dj.sep j 11 b (by omega) (by rw [dd_sl hj]; exact hb) (by rw [dd_W]; exact hb2)
  · exact fun k hk7 => (h.own k hk7).kp hk fun b hb hb2 => h.dj.sep (k + 4) 11 b (by omega) (by rw [dd_ad hk7]; exact hb) (by rw [dd_W]; exact hb2)
  · exact h.tab.kp hk fun hb => h.dj.sep 12 11 _ (by omega) (by rw [dd_C]; exact h.tabIn) (by rw [dd_W]; exact hb)
  · refine h.dj.upd hk.size i (fun j hj => ?_) (fun b hb => ?_) (fun _ b hb => ?_)
    · unfold DD
      by_cases h4 : j < 4
      · rw [if_pos h4, if_pos h4, up_ne _ _ hj]
      · rw [if_neg h4, if_neg h4]
    · rw [dd_sl hi, up_same] at hb
      exact ⟨hs.lt b hb, .inr (haw b hb).2⟩
    · rw [dd_sl hi, up_same] at hb
      exact (haw b hb).1
end
end Go.Vc
