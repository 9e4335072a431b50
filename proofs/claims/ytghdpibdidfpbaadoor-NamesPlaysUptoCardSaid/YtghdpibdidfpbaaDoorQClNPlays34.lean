/- NamesPlays: apart. -/
import Derived.Test.YtghdpibdidfpbaaDoorQClNPlays33
namespace Go.Vc
open Go Go.Proofs
set_option maxRecDepth 10000
variable {w w0 : World} {g : DG}
/-- the mark of a list -/
def mkI (j : Nat) : Value := I (0 - (j : Int) - 1)
/-- while the lists are written over -/
structure PA (w0 w : World) (g : DG) (rows : Nat → List Value) (W : World) : Prop where
  hdr : Blk W g.W (g.cells g.v) 51
  kr : OwnS W 34 1 g.aK g.es.length g.cK (g.es.map KE.kv)
  wr : OwnS W 34 1 g.aW g.es.length g.cW (g.es.map KE.wv)
  ek : ∀ (i : Nat) (e : KE), g.es[i]? = some e → OwnS W 3 1 e.ak e.xs.length e.ck (rows i)
  kp : Kp [] w0 W
  sz : w.heap.size ≤ W.heap.size
theorem PA.kp0 {rows : Nat → List Value} {W W' : World} (h : PA w0 w g rows W) (hk : Kp [] W W') : PA w0 w g rows W' :=
  ⟨hk.blk (by simp) h.hdr, h.kr.kp hk (by simp), h.wr.kp hk (by simp), fun i e he => (h.ek i e he).kp hk (by simp), h.kp.trans hk, Nat.le_trans h.sz hk.size⟩
theorem PA.kcell {rows : Nat → List Value} {W : World} (h : PA w0 w g rows W) {i : Nat} {e : KE} (he : g.es[i]? = some e) : ∃ b, g.aK = some ⟨b, 0, none⟩ ∧ W.cell? ⟨b, i, none⟩ = some e.kv := by
  have hl := (List.getElem?_eq_some_iff.1 he).1
  cases ha : g.aK with
  | none => have := h.kr; rw [ha] at this; have := this.2.1; omega
  | some a =>
    have := h.kr
    rw [ha] at this
    obtain ⟨blk, off, spot⟩ := a
    obtain ⟨h1, h2, _⟩ := this.2
    dsimp only at h1 h2
    subst h1 h2
    exact ⟨blk, rfl, OwnS.get this (by rw [List.getElem?_map, he]; rfl)⟩
theorem PA.wcell {rows : Nat → List Value} {W : World} (h : PA w0 w g rows W) {i : Nat} {e : KE} (he : g.es[i]? = some e) : ∃ b, g.aW = some ⟨b, 0, none⟩ ∧ W.cell? ⟨b, i, none⟩ = some e.wv := by
  have hl := (List.getElem?_eq_some_iff.1 he).1
  cases ha : g.aW with
  | none => have := h.wr; rw [ha] at this; have := this.2.1; omega
  | some a =>
    have := h.wr
    rw [ha] at this
    obtain ⟨blk, off, spot⟩ := a
    obtain ⟨h1, h2, _⟩ := this.2
    dsimp only at h1 h2
    subst h1 h2
    exact ⟨blk, rfl, OwnS.get this (by rw [List.getElem?_map, he]; rfl)⟩
/-- one list turns -/
theorem PA.turn (hd : DS w0 w g) {rows : Nat → List Value} {W W' : World} (h : PA w0 w g rows W) {i : Nat} {e : KE} (he : g.es[i]? = some e) {r : List Value} (hk : Kp (blkOf e.ak) W W') (hr : OwnS W' 3 1 e.ak e.xs.length e.ck r) : PA w0 w g (setN rows i r) W' := by
  have aw : ∀ j, j ≠ .ek i → ∀ b, b ∈ g.F j → b ∉ blkOf e.ak := fun j hj b hb hm => hd.ap j (.ek i) hj b hb (by rw [DG.Fek he]; exact hm)
  refine ⟨hk.blk (aw .d (by simp) g.W (by simp [DG.F])) h.hdr, h.kr.kp hk (aw .kr (by simp)), h.wr.kp hk (aw .wr (by simp)), fun j e' he' => ?_, h.kp.since hk (fun b hb => hd.low (.ek i) b (by rw [DG.Fek he]; exact hb)), Nat.le_trans h.sz hk.size⟩
  by_cases c : j = i
  · subst c
    rw [he] at he'
    cases he'
    rw [setN_same]; exact hr
  · rw [setN_ne c]
    exact (h.ek j e' he').kp hk (fun b hb => aw (.ek j) (by simp [c]) b (by rw [DG.Fek he']; exact hb))
theorem DS.pa (hd : DS w0 w g) (hk0 : Kp [] w0 w) : PA w0 w g (fun i => match g.es[i]? with | some e => e.xs.map encJ | none => []) w :=
  ⟨hd.hdr, hd.kr, hd.wr, fun i e he => by rw [he]; exact hd.ek i e he, hk0, Nat.le_refl _⟩
/-- the lists behind the first i of them and k places -/
def rowsA (g : DG) (i k : Nat) (j : Nat) : List Value := match g.es[j]? with
  | none => []
  | some e => if j < i then List.replicate e.xs.length (mkI j) else if j = i then List.replicate k (mkI j) ++ (e.xs.drop k).map encJ else e.xs.map encJ
theorem rowsA_zero : (fun j => match g.es[j]? with | some e => e.xs.map encJ | none => []) = rowsA g 0 0 := by
  funext j
  unfold rowsA
  cases g.es[j]? with
  | none => rfl
  | some e => by_cases c : j = 0 <;> simp [c]
theorem rowsA_next {i : Nat} {e : KE} (he : g.es[i]? = some e) : rowsA g i e.xs.length = rowsA g (i + 1) 0 := by
  funext j
  unfold rowsA
  cases hj : g.es[j]? with
  | none => rfl
  | some e' =>
    dsimp only
    by_cases c : j = i
    · subst c
      rw [hj] at he
      cases he
      rw [if_neg (Nat.lt_irrefl _), if_pos rfl, if_pos (Nat.lt_succ_self _)]
      simp
    · by_cases c1 : j < i
      · rw [if_pos c1, if_pos (by omega)]
      · rw [if_neg c1, if_neg c, if_neg (by omega)]
        by_cases c2 : j = i + 1
        · rw [if_pos c2]; simp
        · rw [if_neg c2]
theorem rowsA_set {i k : Nat} {e : KE} (he : g.es[i]? = some e) (hk : k < e.xs.length) : setN (rowsA g i k) i ((rowsA g i k i).set k (mkI i)) = rowsA g i (k + 1) := by
  funext j
  by_cases c : j = i
  · subst c
    rw [setN_same]
    unfold rowsA
    rw [he]
    dsimp only
    rw [if_neg (Nat.lt_irrefl _), if_pos rfl, if_pos rfl, List.drop_eq_getElem_cons hk, List.map_cons, List.set_append_right _ _ (by simp), List.length_replicate, Nat.sub_self, List.set_cons_zero, List.replicate_succ', List.append_assoc, if_neg (Nat.lt_irrefl _)]
    rfl
  · rw [setN_ne c]
    unfold rowsA
    cases g.es[j]? with
    | none => rfl
    | some e' =>
      dsimp only
      rw [if_neg c, if_neg c]
/-- while the lists grow -/
structure PB (w0 w : World) (g : DG) (i : Nat) (am : Nat → Option Addr) (cm : Nat → Nat) (W : World) : Prop where
  hdr : Blk W g.W (g.cells g.v) 51
  kr : OwnS W 34 1 g.aK g.es.length g.cK (g.es.map KE.kv)
  wr : ∃ ws : List Value, OwnS W 34 1 g.aW g.es.length g.cW ws ∧ ∀ (j : Nat) (e : KE), j < i → g.es[j]? = some e → ws[j]? = some (.slice (am j) (e.xs.length + 70) (cm j))
  done : ∀ (j : Nat) (e : KE), j < i → g.es[j]? = some e → ReadS W (am j) (List.replicate (e.xs.length + 70) (mkI j)) ∧ ReadS W e.ak (List.replicate e.xs.length (mkI j)) ∧ ∀ b, b ∈ blkOf (am j) → (b ∈ blkOf e.ak ∨ w.heap.size ≤ b) ∧ b < W.heap.size
  todo : ∀ (j : Nat) (e : KE), i ≤ j → g.es[j]? = some e → OwnS W 3 1 e.ak e.xs.length e.ck (List.replicate e.xs.length (mkI j))
  kp : Kp [] w0 W
  sz : w.heap.size ≤ W.heap.size
theorem PA.pb {W : World} (h : PA w0 w g (rowsA g g.es.length 0) W) : PB w0 w g 0 (fun _ => none) (fun _ => 0) W :=
  ⟨h.hdr, h.kr, ⟨_, h.wr, fun j e hj => by omega⟩, fun j e hj => by omega, fun j e _ he => by
    have := h.ek j e he
    have hl := (List.getElem?_eq_some_iff.1 he).1
    unfold rowsA at this
    rw [he] at this
    dsimp only at this
    rw [if_pos hl] at this
    exact this, h.kp, h.sz⟩
theorem ReadS.rep {W : World} {a : Option Addr} {n m : Nat} {v : Value} (h : ReadS W a (List.replicate m v)) (hn : n ≤ m) : ReadS W a (List.replicate n v) := by
  cases a with
  | none =>
    have h0 : List.replicate m v = [] := h
    have : m = 0 := by simpa using congrArg List.length h0
    have : n = 0 := by omega
    subst this; rfl
  | some a =>
    intro j u hu
    obtain ⟨h1, h2⟩ := List.getElem?_eq_some_iff.1 hu
    simp at h1 h2
    exact h j u (by rw [List.getElem?_replicate, if_pos (by omega), h2])
/-- the i-th one has grown -/
theorem PB.next (hd : DS w0 w g) {i : Nat} {am : Nat → Option Addr} {cm : Nat → Nat} {W W2 W3 : World} (h : PB w0 w g i am cm W) {e : KE} (he : g.es[i]? = some e) {adm : Option Addr} {capm : Nat} (hk : Kp (blkOf e.ak) W W2) (hr1 : ReadS W2 adm (List.replicate (e.xs.length + 70) (mkI i))) (hr2 : ReadS W2 e.ak (List.replicate e.xs.length (mkI i)))
    (hb : ∀ b, b ∈ blkOf adm → (b ∈ blkOf e.ak ∨ W.heap.size ≤ b) ∧ b < W2.heap.size) (hk3 : Kp (blkOf g.aW) W2 W3) {ws : List Value} (hws : OwnS W3 34 1 g.aW g.es.length g.cW ws) (hwi : ws[i]? = some (.slice adm (e.xs.length + 70) capm)) (hwj : ∀ (j : Nat) (e : KE), j < i → g.es[j]? = some e → ws[j]? = some (.slice (am j) (e.xs.length + 70) (cm j))) :
    PB w0 w g (i + 1) (setN am i adm) (setN cm i capm) W3 := by
  have aw : ∀ j, j ≠ .ek i → ∀ b, b ∈ g.F j → b ∉ blkOf e.ak := fun j hj b hb hm => hd.ap j (.ek i) hj b hb (by rw [DG.Fek he]; exact hm)
  have aw2 : ∀ j, j ≠ .wr → ∀ b, b ∈ g.F j → b ∉ blkOf g.aW := fun j hj b hb hm => hd.ap j .wr hj b hb hm
  have elt : ∀ b, b ∈ blkOf e.ak → b < w.heap.size := fun b hb => hd.lt (.ek i) b (by rw [DG.Fek he]; exact hb)
  have wlt : ∀ b, b ∈ blkOf g.aW → b < w.heap.size := fun b hb => hd.lt .wr b hb
  have ek2 : ∀ b, b ∈ blkOf e.ak → b ∉ blkOf g.aW := fun b hb => aw2 (.ek i) (by simp) b (by rw [DG.Fek he]; exact hb)
  have hsz := h.sz
  have s2 := hk.size
  have s3 := hk3.size
  have hwi2 : ∀ j, j ≠ i → setN am i adm j = am j ∧ setN cm i capm j = cm j := fun j hj => ⟨setN_ne hj, setN_ne hj⟩
  refine ⟨hk3.blk (aw2 .d (by simp) g.W (by simp [DG.F])) (hk.blk (aw .d (by simp) g.W (by simp [DG.F])) h.hdr), (h.kr.kp hk (aw .kr (by simp))).kp hk3 (aw2 .kr (by simp)), ⟨ws, hws, fun j e' hj he' => ?_⟩, fun j e' hj he' => ?_, fun j e' hj he' => ?_,
    (h.kp.since hk (fun b hb => hd.low (.ek i) b (by rw [DG.Fek he]; exact hb))).since hk3 (fun b hb => hd.low .wr b hb), by omega⟩
  · by_cases c : j = i
    · subst c
      rw [he] at he'; cases he'
      rw [setN_same, setN_same]; exact hwi
    · rw [(hwi2 j c).1, (hwi2 j c).2]
      exact hwj j e' (by omega) he'
  · by_cases c : j = i
    · subst c
      rw [he] at he'; cases he'
      rw [setN_same]
      refine ⟨hr1.kp hk3 (fun b hb' hm => ?_), hr2.kp hk3 ek2, fun b hb' => ⟨?_, by have := (hb b hb').2; omega⟩⟩
      · rcases (hb b hb').1 with q | q
        · exact ek2 b q hm
        · have := wlt b hm; omega
      · rcases (hb b hb').1 with q | q
        · exact .inl q
        · exact .inr (by omega)
    · rw [(hwi2 j c).1]
      obtain ⟨d1, d2, d3⟩ := h.done j e' (by omega) he'
      have fj : ∀ b, b ∈ blkOf e'.ak → b ∈ g.F (.ek j) := fun b hb => by rw [DG.Fek he']; exact hb
      refine ⟨(d1.kp hk (fun b hb' hm => ?_)).kp hk3 (fun b hb' hm => ?_), (d2.kp hk (fun b hb' => aw (.ek j) (by simp [c]) b (fj b hb'))).kp hk3 (fun b hb' => aw2 (.ek j) (by simp) b (fj b hb')), fun b hb' => ⟨(d3 b hb').1, by have := (d3 b hb').2; omega⟩⟩
      · rcases (d3 b hb').1 with q | q
        · exact aw (.ek j) (by simp [c]) b (fj b q) hm
        · have := elt b hm; omega
      · rcases (d3 b hb').1 with q | q
        · exact aw2 (.ek j) (by simp) b (fj b q) hm
        · have := wlt b hm; omega
  · have c : j ≠ i := by omega
    have fj : ∀ b, b ∈ blkOf e'.ak → b ∈ g.F (.ek j) := fun b hb => by rw [DG.Fek he']; exact hb
    exact ((h.todo j e' (by omega) he').kp hk (fun b hb' => aw (.ek j) (by simp [c]) b (fj b hb'))).kp hk3 (fun b hb' => aw2 (.ek j) (by simp) b (fj b hb'))
theorem own_at {T : TypeId} {W : World} {a : Option Addr} {n cap i : Nat} {xs : List Value} {v : Value} (h : OwnS W T 1 a n cap xs) (hv : xs[i]? = some v) : ∃ b, a = some ⟨b, 0, none⟩ ∧ W.cell? ⟨b, i, none⟩ = some v := by
  have hl := (List.getElem?_eq_some_iff.1 hv).1
  have hn := h.1
  cases a with
  | none => have := h.2.1; omega
  | some a =>
    obtain ⟨blk, off, spot⟩ := a
    obtain ⟨h1, h2, _⟩ := h.2
    dsimp only at h1 h2
    subst h1 h2
    exact ⟨blk, rfl, OwnS.get h hv⟩
theorem PB.hdr' {i : Nat} {am : Nat → Option Addr} {cm : Nat → Nat} {W : World} (h : PB w0 w g i am cm W) {bK bW : Nat} (hK : g.aK = some ⟨bK, 0, none⟩) (hW : g.aW = some ⟨bW, 0, none⟩) : Blk W g.W [g.v 0, g.v 1, g.v 2, g.v 3, .slice (some ⟨bK, 0, none⟩) g.es.length g.cK, .slice (some ⟨bW, 0, none⟩) g.es.length g.cW] 51 := by
  have := h.hdr
  unfold DG.cells at this
  rw [hK, hW] at this
  exact this
theorem PA.hdr' {rows : Nat → List Value} {W : World} (h : PA w0 w g rows W) {bK : Nat} (hK : g.aK = some ⟨bK, 0, none⟩) : Blk W g.W [g.v 0, g.v 1, g.v 2, g.v 3, .slice (some ⟨bK, 0, none⟩) g.es.length g.cK, .slice g.aW g.es.length g.cW] 51 := by
  have := h.hdr
  unfold DG.cells at this
  rw [hK] at this
  exact this
set_option maxHeartbeats 12800000 in
theorem apart_ret (h : DS w0 w g) (hk0 : Kp [] w0 w) (hcnt : g.es.length ≤ 1073741824) :
    Ret Tryd.prog 18 [ptr g.W] w (fun v w' => v = .bool true ∧ Kp [] w0 w') := by
  have hA0 := h.pa hk0
  rw [rowsA_zero] at hA0
  have hew := h.ew
  refine enter Tryd.call18 Tryd.func18 rfl rfl rfl rfl ?_
  (repeat first|refine zA ?_|refine zB ?_|refine zg ?_|refine zo rfl rfl trivial ?_|refine zn ?_|refine zb ?_)
  refine r_loop (α := Nat) [0, 3] (fun i => [ptr g.W, I i]) (fun i W => i ≤ g.es.length ∧ Kp [] w W) (fun i => g.es.length - i) 0 rfl ⟨Nat.zero_le _, Kp.refl _ _⟩ ?_
  rintro i e1 W ⟨hi, kW⟩
  have hA := hA0.kp0 kW
  (repeat first|refine zA ?_|refine zB ?_|refine zg ?_|refine zo rfl rfl trivial ?_)
  refine o_load rfl hA.hdr rfl rfl rfl rfl rfl ?_
  (repeat first|refine zo rfl rfl trivial ?_|refine zn ?_)
  refine r_if rfl (fun hc => ?_) (fun hc => ?_)
  · have hc : i < g.es.length := by omega
    obtain ⟨e, he⟩ : ∃ e, g.es[i]? = some e := ⟨_, List.getElem?_eq_getElem hc⟩
    obtain ⟨bK, haK, _⟩ := hA.kcell he
    obtain ⟨bW, haW, _⟩ := hA.wcell he
    have ck : ∀ W', Kp [] W W' → W'.cell? ⟨bK, i, none⟩ = some e.kv := fun W' hk => by
      obtain ⟨b', h1, h2⟩ := (hA.kp0 hk).kcell he
      rw [haK] at h1; cases h1; exact h2
    have cw : ∀ W', Kp [] W W' → W'.cell? ⟨bW, i, none⟩ = some e.wv := fun W' hk => by
      obtain ⟨b', h1, h2⟩ := (hA.kp0 hk).wcell he
      rw [haW] at h1; cases h1; exact h2
    have hB : ∀ W', Kp [] W W' → Blk W' g.W [g.v 0, g.v 1, g.v 2, g.v 3, .slice (some ⟨bK, 0, none⟩) g.es.length g.cK, .slice (some ⟨bW, 0, none⟩) g.es.length g.cW] 51 := fun W' hk => by
      have := (hA.kp0 hk).hdr
      unfold DG.cells at this
      rw [haK, haW] at this
      exact this
    have hxb := h.xb i e he
    (repeat first|refine zC ?_|refine zb ?_|refine zk ?_)
    refine r_seq ?_
    refine r_mix (fun W' => Kp [] W W') [(0, false), (1, false), (2, false), (3, false), (4, false), (5, false), (6, false), (7, false), (8, false), (9, false), (10, false), (11, false), (12, false), (13, false), (14, true), (15, false)] follows_mixed (by kernel_rfl) (by kernel_rfl) (by kernel_rfl) ((Sm.drew _).kp _) ?_
    have kd := (Sm.drew W).kp []
    generalize ({ W with drawn := W.drawn + 1 } : World) = wd at kd ⊢
    (repeat refine xo rfl rfl trivial ?_)
    refine x_load (b := g.W) (off := 4) (v := .slice (some ⟨bK, 0, none⟩) g.es.length g.cK) rfl rfl (fun W' h' => Blk.cell (hB W' h') rfl) rfl rfl rfl rfl ?_
    (repeat refine xo rfl rfl (by first|exact trivial|(simp only[AllP];omega)) ?_)
    refine x_load (b := bK) (off := i) (v := e.kv) rfl (by exact ptr_eq (by omega)) (fun W' h' => ck W' h') rfl rfl rfl rfl ?_
    unfold KE.kv
    (repeat refine xo rfl rfl trivial ?_)
    refine x_load (b := g.W) (off := 5) (v := .slice (some ⟨bW, 0, none⟩) g.es.length g.cW) rfl rfl (fun W' h' => Blk.cell (hB W' h') rfl) rfl rfl rfl rfl ?_
    (repeat refine xo rfl rfl (by first|exact trivial|(simp only[AllP];omega)) ?_)
    refine x_load (b := bW) (off := i) (v := e.wv) rfl (by exact ptr_eq (by omega)) (fun W' h' => cw W' h') rfl rfl rfl rfl ?_
    unfold KE.wv
    refine x_act rfl ?_
    refine o_call (nsame_yes (w := wd) (xs := e.xs.map encJ) (n := e.xs.length) (by simp) encJ_int (((h.ek i e he).kp kW (by simp)).kp kd (by simp)).read (((h.ew i e he).kp kW (by simp)).kp kd (by simp)).read (by omega)) rfl rfl rfl ?_
    rintro v W3 ⟨rfl, k3⟩
    refine o_nil ⟨.inr (kd.trans k3), ?_⟩
    (repeat first|refine xo rfl rfl trivial ?_|refine xn ?_)
    (repeat first|refine zg ?_|refine zo rfl rfl (by first|exact trivial|(simp only[AllP];omega)) ?_|refine zn ?_|refine zk ?_|refine zf rfl ?_)
    exact ⟨i + 1, rfl, ⟨by omega, kW.trans (kd.trans k3)⟩, by omega⟩
  · clear hc hi
    (repeat first|refine zA ?_|refine zB ?_|refine zg ?_|refine zo rfl rfl trivial ?_|refine zn ?_|refine zb ?_|refine ze rfl ?_)
    refine r_loop (α := Nat) [0, 4] (fun i => [ptr g.W, I i]) (fun i W => i ≤ g.es.length ∧ PA w0 w g (rowsA g i 0) W) (fun i => g.es.length - i) 0 rfl ⟨Nat.zero_le _, hA⟩ ?_
    clear hA kW W
    rintro i e2 W ⟨hi, hA⟩
    (repeat first|refine zA ?_|refine zB ?_|refine zg ?_|refine zo rfl rfl trivial ?_)
    refine o_load rfl hA.hdr rfl rfl rfl rfl rfl ?_
    (repeat first|refine zo rfl rfl trivial ?_|refine zn ?_)
    refine r_if rfl (fun hc => ?_) (fun hc => ?_)
    · have hc : i < g.es.length := by omega
      obtain ⟨e, he⟩ : ∃ e, g.es[i]? = some e := ⟨_, List.getElem?_eq_getElem hc⟩
      have hxb := h.xb i e he
      (repeat first|refine zA ?_|refine zC ?_|refine zg ?_|refine zo rfl rfl trivial ?_|refine zn ?_|refine zb ?_|refine zk ?_)
      refine r_loop (α := Nat) [0, 4, 5] (fun k => [ptr g.W, I i, I k]) (fun k W => k ≤ e.xs.length ∧ PA w0 w g (rowsA g i k) W) (fun k => e.xs.length - k) 0 rfl ⟨Nat.zero_le _, hA⟩ ?_
      clear hA W
      rintro k e3 W ⟨hk, hA⟩
      obtain ⟨bK, haK, hck⟩ := hA.kcell he
      have hB := hA.hdr' haK
      (repeat first|refine zA ?_|refine zB ?_|refine zg ?_|refine zo rfl rfl trivial ?_)
      refine o_load rfl hB rfl rfl rfl rfl rfl ?_
      (repeat refine zo rfl rfl (by first|exact trivial|(simp only[AllP];omega)) ?_)
      refine o_loadc (v := e.kv) rfl (by rw [Int.toNat_natCast, Nat.zero_add]; exact hck) rfl rfl rfl rfl ?_
      unfold KE.kv
      (repeat first|refine zo rfl rfl trivial ?_|refine zn ?_)
      refine r_if rfl (fun hc2 => ?_) (fun hc2 => ?_)
      · have hc2 : k < e.xs.length := by omega
        have hrow := hA.ek i e he
        obtain ⟨b, hb⟩ : ∃ b, e.ak = some ⟨b, 0, none⟩ := by
          cases ha : e.ak with
          | none => rw [ha] at hrow; have := hrow.2.1; omega
          | some a =>
            rw [ha] at hrow
            obtain ⟨blk, off, spot⟩ := a
            obtain ⟨h1, h2, _⟩ := hrow.2
            dsimp only at h1 h2
            subst h1 h2
            exact ⟨blk, rfl⟩
        obtain ⟨b', L, hb', hL, hil, hw⟩ := OwnS.wr hrow (i := k) hc2
        rw [hb] at hb'
        cases hb'
        (repeat first|refine zC ?_|refine zg ?_|refine zo rfl rfl trivial ?_|refine zb ?_|refine zk ?_)
        refine o_load rfl hB rfl rfl rfl rfl rfl ?_
        (repeat refine zo rfl rfl (by first|exact trivial|(simp only[AllP];omega)) ?_)
        refine o_loadc (v := .slice (some ⟨b, 0, none⟩) e.xs.length e.ck) rfl (by rw [Int.toNat_natCast, Nat.zero_add]; unfold KE.kv at hck; rw [hb] at hck; exact hck) rfl rfl rfl rfl ?_
        (repeat refine zo rfl rfl (by first|exact trivial|(simp only[AllP];omega)) ?_)
        refine o_store (b := b) (off := k) (v := mkI i) (by exact ptr_eq (by omega)) hL hil rfl rfl rfl rfl rfl rfl ?_
        intro W2 hu2
        have hA2 := hA.turn h he (hu2.kp _ (.inl (by rw [hb]; simp [blkOf]))) (hw (mkI i) W2 hu2)
        rw [rowsA_set he hc2] at hA2
        (repeat first|refine zg ?_|refine zo rfl rfl (by first|exact trivial|(simp only[AllP];omega)) ?_|refine zn ?_)
        exact ⟨k + 1, rfl, ⟨by omega, hA2⟩, by omega⟩
      · have hke : k = e.xs.length := by omega
        subst hke
        rw [rowsA_next he] at hA
        (repeat first|refine zg ?_|refine zo rfl rfl (by first|exact trivial|(simp only[AllP];omega)) ?_|refine zn ?_|refine ze rfl ?_)
        exact ⟨i + 1, rfl, ⟨by omega, hA⟩, by omega⟩
    · have hie : i = g.es.length := by omega
      subst hie
      clear hi hc
      have hB0 := hA.pb
      (repeat first|refine zA ?_|refine zB ?_|refine zg ?_|refine zo rfl rfl trivial ?_|refine zn ?_|refine zb ?_|refine ze rfl ?_)
      refine r_loop (α := Nat) [0, 6] (fun i => [ptr g.W, I i]) (fun i W => i ≤ g.es.length ∧ ∃ am cm, PB w0 w g i am cm W) (fun i => g.es.length - i) 0 rfl ⟨Nat.zero_le _, _, _, hB0⟩ ?_
      clear hA hB0 W
      rintro i e2 W ⟨hi, am, cm, hP⟩
      (repeat first|refine zA ?_|refine zB ?_|refine zg ?_|refine zo rfl rfl trivial ?_)
      refine o_load rfl hP.hdr rfl rfl rfl rfl rfl ?_
      (repeat first|refine zo rfl rfl trivial ?_|refine zn ?_)
      refine r_if rfl (fun hc => ?_) (fun hc => ?_)
      · have hc : i < g.es.length := by omega
        obtain ⟨e, he⟩ : ∃ e, g.es[i]? = some e := ⟨_, List.getElem?_eq_getElem hc⟩
        have hxb := h.xb i e he
        obtain ⟨bK, haK, hck⟩ := own_at hP.kr (i := i) (v := e.kv) (by rw [List.getElem?_map, he]; rfl)
        obtain ⟨bW, haW, _⟩ : ∃ b, g.aW = some ⟨b, 0, none⟩ ∧ True := by
          obtain ⟨ws, hws, _⟩ := hP.wr
          obtain ⟨v, hv⟩ : ∃ v, ws[i]? = some v := ⟨_, List.getElem?_eq_getElem (by have := hws.1; omega)⟩
          obtain ⟨b, h1, _⟩ := own_at hws hv
          exact ⟨b, h1, trivial⟩
        have hB := hP.hdr' haK haW
        (repeat first|refine zA ?_|refine zC ?_|refine zg ?_|refine zo rfl rfl trivial ?_|refine zb ?_|refine zk ?_)
        refine o_load rfl hB rfl rfl rfl rfl rfl ?_
        (repeat refine zo rfl rfl (by first|exact trivial|(simp only[AllP];omega)) ?_)
        refine o_loadc (v := e.kv) rfl (by rw [Int.toNat_natCast, Nat.zero_add]; exact hck) rfl rfl rfl rfl ?_
        unfold KE.kv
        have hown := hP.todo i e (Nat.le_refl _) he
        have elt : ∀ b, b ∈ blkOf e.ak → b < W.heap.size := fun b hb => hown.lt b hb
        (repeat first|refine zA ?_|refine zB ?_|refine zg ?_|refine zo rfl rfl trivial ?_|refine zn ?_|refine zb ?_)
        refine r_loop (α := Nat × Option Addr × Nat) [0, 6, 7, 8] (fun q => [ptr g.W, I i, .slice q.2.1 (e.xs.length + q.1) q.2.2, I q.1])
          (fun q W' => q.1 ≤ 70 ∧ OwnS W' 3 1 q.2.1 (e.xs.length + q.1) q.2.2 (List.replicate (e.xs.length + q.1) (mkI i)) ∧ (q.2.1 = e.ak ∨ (ReadS W' e.ak (List.replicate e.xs.length (mkI i)) ∧ ∀ b, b ∈ blkOf q.2.1 → b ∉ blkOf e.ak)) ∧ (∀ b, b ∈ blkOf q.2.1 → b ∈ blkOf e.ak ∨ W.heap.size ≤ b) ∧ Kp (blkOf e.ak) W W') (fun q => 70 - q.1) (0, e.ak, e.ck) rfl
          ⟨Nat.zero_le _, hown, .inl rfl, fun b hb => .inl hb, Kp.refl _ _⟩ ?_
        rintro ⟨k, adm, capm⟩ e3 W2 ⟨hk, hO, hor, hbl, k2⟩
        dsimp only at hk hO hor hbl ⊢
        have s2 := k2.size
        (repeat first|refine zA ?_|refine zB ?_|refine zg ?_|refine zo rfl rfl trivial ?_|refine zn ?_)
        refine r_if rfl (fun hc2 => ?_) (fun hc2 => ?_)
        · have hc2 : k < 70 := by omega
          (repeat first|refine zC ?_|refine zg ?_|refine zo rfl rfl (by first|exact trivial|(simp only[AllP];omega)) ?_|refine zb ?_|refine zk ?_)
          refine o_buildSlice [mkI i] rfl (by simp [Value.oneCell', mkI]) rfl (by decide) (by decide) rfl rfl rfl rfl rfl ?_
          intro b9 W5 hb9 hu5
          have kk5 : Kp [] W2 W5 := hu5.kp [] (.inr (by omega))
          have s5 := kk5.size
          refine o_append1K rfl rfl (hO.kp kk5 (by simp)) hu5.blk rfl rfl rfl rfl (by simp only [maxLen]; omega) (by omega) rfl rfl ?_
          intro ad6 cap6 W6 ho6 kk6 hnew6 hor6
          have k26 : Kp (blkOf e.ak) W W6 := k2.after ((kk5.mono (S' := blkOf adm) (by simp)).after kk6 (fun b hb => .inl hb)) (fun b hb => hbl b hb)
          have hrep : List.replicate (e.xs.length + k) (mkI i) ++ [mkI i] = List.replicate (e.xs.length + (k + 1)) (mkI i) := by rw [← Nat.add_assoc, List.replicate_succ']
          (repeat first|refine zg ?_|refine zo rfl rfl (by first|exact trivial|(simp only[AllP];omega)) ?_|refine zn ?_)
          refine ⟨(k + 1, ad6, cap6), rfl, ⟨by dsimp only; omega, by dsimp only; rw [← hrep]; exact ho6, ?_, fun b hb => ?_, k26⟩, by dsimp only; omega⟩
          · dsimp only
            rcases hor6 with rfl | ⟨k56, hfr⟩
            · rcases hor with rfl | ⟨r1, r2⟩
              · exact .inl rfl
              · exact .inr ⟨(r1.kp kk5 (by simp)).kp kk6 (fun b hb hm => r2 b hm hb), r2⟩
            · right
              refine ⟨?_, fun b hb hm => by have := hfr b hb; have := elt b hm; omega⟩
              rcases hor with rfl | ⟨r1, r2⟩
              · exact (((hO.read).rep (by omega)).kp kk5 (by simp)).kp k56 (by simp)
              · exact (r1.kp kk5 (by simp)).kp k56 (by simp)
          · dsimp only at hb
            rcases hnew6 b hb with q | q
            · exact hbl b q
            · exact .inr (by omega)
        · have hk70 : k = 70 := by omega
          subst hk70
          have aw2 : ∀ j, j ≠ .wr → ∀ b, b ∈ g.F j → b ∉ blkOf g.aW := fun j hj b hb hm => h.ap j .wr hj b hb hm
          have aw : ∀ j, j ≠ .ek i → ∀ b, b ∈ g.F j → b ∉ blkOf e.ak := fun j hj b hb hm => h.ap j (.ek i) hj b hb (by rw [DG.Fek he]; exact hm)
          have hB2 := k2.blk (aw .d (by simp) g.W (by simp [DG.F])) hB
          obtain ⟨ws, hws, hwj⟩ := hP.wr
          have hws2 := hws.kp k2 (aw .wr (by simp))
          obtain ⟨b', L, hb', hL, hil, hw⟩ := OwnS.wr hws2 (i := i) hc
          rw [haW] at hb'
          cases hb'
          have hwl : ws.length = g.es.length := by have := hws.1; omega
          (repeat first|refine zg ?_|refine zo rfl rfl trivial ?_|refine ze rfl ?_)
          refine o_load rfl hB2 rfl rfl rfl rfl rfl ?_
          (repeat refine zo rfl rfl (by first|exact trivial|(simp only[AllP];omega)) ?_)
          refine o_store (b := bW) (off := i) (v := .slice adm (e.xs.length + 70) capm) (by exact ptr_eq (by omega)) hL hil rfl rfl rfl rfl rfl rfl ?_
          intro W3 hu3
          have hr2 : ReadS W2 e.ak (List.replicate e.xs.length (mkI i)) := by
            rcases hor with rfl | ⟨r1, _⟩
            · exact hO.read.rep (by omega)
            · exact r1
          have hnext := hP.next h he k2 hO.read hr2 (fun b hb => ⟨hbl b hb, hO.lt b hb⟩) (hu3.kp (blkOf g.aW) (.inl (by rw [haW]; simp [blkOf]))) (capm := capm) (hw _ W3 hu3) (by rw [List.getElem?_set]; simp [hwl, hc]) (fun j e' hj he' => by rw [List.getElem?_set, if_neg (by omega)]; exact hwj j e' hj he')
          (repeat first|refine zg ?_|refine zo rfl rfl (by first|exact trivial|(simp only[AllP];omega)) ?_|refine zn ?_)
          exact ⟨i + 1, rfl, ⟨by omega, _, _, hnext⟩, by omega⟩
      · have hie : i = g.es.length := by omega
        subst hie
        clear hi hc
        have rdone : ∀ (j : Nat) (e : KE), g.es[j]? = some e → ∃ bK bW, g.aK = some ⟨bK, 0, none⟩ ∧ g.aW = some ⟨bW, 0, none⟩ ∧ W.cell? ⟨bK, j, none⟩ = some e.kv ∧ W.cell? ⟨bW, j, none⟩ = some (.slice (am j) (e.xs.length + 70) (cm j)) := fun j e he => by
          obtain ⟨ws, hws, hwj⟩ := hP.wr
          have hl := (List.getElem?_eq_some_iff.1 he).1
          obtain ⟨bK, h1, h2⟩ := own_at hP.kr (i := j) (v := e.kv) (by rw [List.getElem?_map, he]; rfl)
          obtain ⟨bW, h3, h4⟩ := own_at hws (hwj j e hl he)
          exact ⟨bK, bW, h1, h3, h2, h4⟩
        (repeat first|refine zA ?_|refine zB ?_|refine zg ?_|refine zo rfl rfl trivial ?_|refine zn ?_|refine zb ?_|refine ze rfl ?_)
        refine r_loop (α := Nat) [0, 9] (fun i => [ptr g.W, I i]) (fun i W' => i ≤ g.es.length ∧ W' = W) (fun i => g.es.length - i) 0 rfl ⟨Nat.zero_le _, rfl⟩ ?_
        rintro i e4 W' ⟨hi, rfl⟩
        (repeat first|refine zA ?_|refine zB ?_|refine zg ?_|refine zo rfl rfl trivial ?_)
        refine o_load rfl hP.hdr rfl rfl rfl rfl rfl ?_
        (repeat first|refine zo rfl rfl trivial ?_|refine zn ?_)
        refine r_if rfl (fun hc => ?_) (fun hc => ?_)
        · have hc : i < g.es.length := by omega
          obtain ⟨e, he⟩ : ∃ e, g.es[i]? = some e := ⟨_, List.getElem?_eq_getElem hc⟩
          have hxb := h.xb i e he
          obtain ⟨bK, bW, haK, haW, hck, hcw⟩ := rdone i e he
          have hB := hP.hdr' haK haW
          obtain ⟨d1, d2, _⟩ := hP.done i e hc he
          (repeat first|refine zA ?_|refine zC ?_|refine zg ?_|refine zo rfl rfl trivial ?_|refine zn ?_|refine zb ?_|refine zk ?_)
          refine r_loop (α := Nat) [0, 9, 10] (fun k => [ptr g.W, I i, I k]) (fun k W2 => k ≤ e.xs.length + 70 ∧ W2 = W') (fun k => e.xs.length + 70 - k) 0 rfl ⟨Nat.zero_le _, rfl⟩ ?_
          rintro k e5 W2 ⟨hk, rfl⟩
          (repeat first|refine zA ?_|refine zB ?_|refine zg ?_|refine zo rfl rfl trivial ?_)
          refine o_load rfl hB rfl rfl rfl rfl rfl ?_
          (repeat refine zo rfl rfl (by first|exact trivial|(simp only[AllP];omega)) ?_)
          refine o_loadc (v := .slice (am i) (e.xs.length + 70) (cm i)) rfl (by rw [Int.toNat_natCast, Nat.zero_add]; exact hcw) rfl rfl rfl rfl ?_
          (repeat first|refine zo rfl rfl trivial ?_|refine zn ?_)
          refine r_if rfl (fun hc2 => ?_) (fun hc2 => ?_)
          · have hc2 : k < e.xs.length + 70 := by omega
            obtain ⟨ba, oa, hba, _, hca⟩ := d1.at_ (by simp)
            rw [hba] at hcw
            (repeat first|refine zA ?_|refine zC ?_|refine zg ?_|refine zo rfl rfl trivial ?_|refine zb ?_|refine zk ?_)
            refine o_load rfl hB rfl rfl rfl rfl rfl ?_
            (repeat refine zo rfl rfl (by first|exact trivial|(simp only[AllP];omega)) ?_)
            refine o_loadc (v := .slice (some ⟨ba, oa, none⟩) (e.xs.length + 70) (cm i)) rfl (by rw [Int.toNat_natCast, Nat.zero_add]; exact hcw) rfl rfl rfl rfl ?_
            (repeat refine zo rfl rfl (by first|exact trivial|(simp only[AllP];omega)) ?_)
            refine o_loadc (v := mkI i) rfl (hca k (mkI i) (by rw [List.getElem?_replicate, if_pos hc2])) rfl rfl rfl rfl ?_
            unfold mkI
            (repeat refine zo rfl rfl (by first|exact trivial|(simp only[AllP];omega)) ?_)
            refine o_is false _ _ rfl rfl rfl (by simp) ?_
            (repeat refine zo rfl rfl trivial ?_)
            refine o_load rfl hB rfl rfl rfl rfl rfl ?_
            (repeat refine zo rfl rfl (by first|exact trivial|(simp only[AllP];omega)) ?_)
            refine o_loadc (v := e.kv) rfl (by rw [Int.toNat_natCast, Nat.zero_add]; exact hck) rfl rfl rfl rfl ?_
            by_cases hk2 : k < e.xs.length
            · obtain ⟨bb, ob, hbb, _, hcb⟩ := d2.at_ (by simp; omega)
              unfold KE.kv at hck ⊢
              rw [hbb] at hck ⊢
              (repeat refine zo rfl rfl trivial ?_)
              refine o_is true _ _ rfl rfl rfl (by simp only [decide_eq_true_eq]; omega) ?_
              (repeat refine zo rfl rfl trivial ?_)
              refine o_load rfl hB rfl rfl rfl rfl rfl ?_
              (repeat refine zo rfl rfl (by first|exact trivial|(simp only[AllP];omega)) ?_)
              refine o_loadc (v := .slice (some ⟨bb, ob, none⟩) e.xs.length e.ck) rfl (by rw [Int.toNat_natCast, Nat.zero_add]; exact hck) rfl rfl rfl rfl ?_
              (repeat refine zo rfl rfl (by first|exact trivial|(simp only[AllP];omega)) ?_)
              refine o_loadc (v := mkI i) rfl (hcb k (mkI i) (by rw [List.getElem?_replicate, if_pos hk2])) rfl rfl rfl rfl ?_
              unfold mkI
              (repeat first|refine zo rfl rfl (by first|exact trivial|(simp only[AllP];omega)) ?_|refine zn ?_)
              refine r_ifn rfl (fun hbad => ?_) (fun _ => ?_)
              · exact absurd rfl hbad
              (repeat first|refine zg ?_|refine zo rfl rfl (by first|exact trivial|(simp only[AllP];omega)) ?_|refine zn ?_|refine zk ?_)
              exact ⟨k + 1, rfl, ⟨by omega, rfl⟩, by omega⟩
            · unfold KE.kv
              (repeat refine zo rfl rfl trivial ?_)
              refine o_is false _ _ rfl rfl rfl (by simp only [decide_eq_false_iff_not]; omega) ?_
              (repeat first|refine zg ?_|refine zo rfl rfl (by first|exact trivial|(simp only[AllP];omega)) ?_|refine zn ?_|refine zk ?_|refine zf rfl ?_)
              exact ⟨k + 1, rfl, ⟨by omega, rfl⟩, by omega⟩
          · (repeat first|refine zg ?_|refine zo rfl rfl (by first|exact trivial|(simp only[AllP];omega)) ?_|refine zn ?_|refine ze rfl ?_)
            exact ⟨i + 1, rfl, ⟨by omega, rfl⟩, by omega⟩
        · (repeat first|refine zA ?_|refine zg ?_|refine zo rfl rfl trivial ?_|refine zn ?_|refine ze rfl ?_|refine zr ?_)
          exact ⟨_, rfl, rfl, hP.kp⟩
end Go.Vc
