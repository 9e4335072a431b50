/- The law NamesFresh as a call. -/
import Derived.Test.YtghdpibdidfpbaaDoorQClNPlays21
import Derived.Test.YtghdpibdidfpbaaDoorQClNPlays23
import Derived.Test.YtghdpibdidfpbaaDoorQClNPlays20
import Derived.Test.YtghdpibdidfpbaaDoorQClNPlays34
import Derived.Test.YtghdpibdidfpbaaDoorQClNPlays19
import Derived.Test.YtghdpibdidfpbaaDoorQClNPlays8
namespace Go.Vc
open Go Go.Proofs
set_option maxRecDepth 10000
variable {w : World}
end Go.Vc
/- slices of records: where each lies, and what a store leaves. -/
namespace Go.Vc
open Go
variable {w : World} {α : Type} {f : α → List Value} {m : Nat}
theorem flC_len (hf : ∀ x, (f x).length = m) (l : List α) : (l.flatMap f).length = l.length * m := by
  induction l with
  | nil => simp
  | cons x r ih => rw [List.flatMap_cons, List.length_append, ih, hf, List.length_cons, Nat.succ_mul]; omega
theorem flC_at (hf : ∀ x, (f x).length = m) (h0 : 0 < m) : ∀ (l : List α) (k : Nat), (l.flatMap f)[k]? = (l[k / m]?).bind fun x => (f x)[k % m]?
  | [], k => by simp
  | y :: r, k => by
    rw [List.flatMap_cons]
    by_cases hk : k < m
    · rw [List.getElem?_append_left (by rw [hf]; exact hk), Nat.div_eq_of_lt hk, Nat.mod_eq_of_lt hk]; rfl
    · obtain ⟨k', rfl⟩ : ∃ k', k = k' + m := ⟨k - m, by omega⟩
      rw [List.getElem?_append_right (by rw [hf]; omega), hf, Nat.add_sub_cancel, flC_at hf h0 r k', Nat.add_div_right _ h0, Nat.add_mod_right]
      rfl
theorem flC_get (hf : ∀ x, (f x).length = m) {l : List α} {i j : Nat} {x : α} {v : Value} (hx : l[i]? = some x) (hv : (f x)[j]? = some v) : (l.flatMap f)[i * m + j]? = some v := by
  have hj : j < m := by rw [← hf x]; exact (List.getElem?_eq_some_iff.1 hv).1
  have e1 : (i * m + j) / m = i := by rw [Nat.mul_comm, Nat.mul_add_div (by omega), Nat.div_eq_of_lt hj]; omega
  have e2 : (i * m + j) % m = j := by rw [Nat.mul_comm, Nat.mul_add_mod, Nat.mod_eq_of_lt hj]
  rw [flC_at hf (by omega), e1, e2, hx]
  exact hv
def upB (f : Nat → Bool) (k : Nat) (b : Bool) (i : Nat) : Bool := if i = k then b else f i
def bl (f : Nat → Bool) (n : Nat) : List Value := (List.range n).map fun i => .bool (f i)
open Classical in
noncomputable def propB (p : Prop) : Bool := decide p
end Go.Vc
/- The law NamesPlays as a call. -/
namespace Go.Vc
open Go Go.Proofs
set_option maxRecDepth 10000
variable {w w0 : World}
/-- the desk at the start -/
def dg0 (W p z q : Nat) (fp fq : List Nat) : DG where
  W := W
  v := fun k => if k = 0 then ptr p else if k = 1 then ptr z else if k = 2 then ptr q else .pointer none
  f := fun k => if k = 0 then fp else if k = 1 then [z] else if k = 2 then fq else []
  o := fun k => if k = 0 then some [] else if k = 1 then none else if k = 2 then some [] else none
  aK := none
  cK := 0
  aW := none
  cW := 0
  es := []
theorem dg0_F {W p z q : Nat} {fp fq : List Nat} {i : DIx} {b : Nat} (h : b ∈ (dg0 W p z q fp fq).F i) : (i = .d ∧ b = W) ∨ (i = .t 0 ∧ b ∈ fp) ∨ (i = .t 1 ∧ b = z) ∨ (i = .t 2 ∧ b ∈ fq) := by
  cases i with
  | d => exact .inl ⟨rfl, by simpa [DG.F, dg0] using h⟩
  | kr => simp [DG.F, dg0, blkOf] at h
  | wr => simp [DG.F, dg0, blkOf] at h
  | ek i => simp [DG.F, dg0] at h
  | ew i => simp [DG.F, dg0] at h
  | t k =>
    by_cases hk : k < 4
    · rw [DG.Ft hk] at h
      have h : b ∈ (if k = 0 then fp else if k = 1 then [z] else if k = 2 then fq else []) := h
      have : k = 0 ∨ k = 1 ∨ k = 2 ∨ k = 3 := by omega
      rcases this with rfl | rfl | rfl | rfl
      · exact .inr (.inl ⟨rfl, h⟩)
      · exact .inr (.inr (.inl ⟨rfl, by simpa using h⟩))
      · exact .inr (.inr (.inr ⟨rfl, h⟩))
      · simp at h
    · simp [DG.F, hk] at h
theorem ds_start {W p z q m cap1 cap2 s1 s2 : Nat} {fp : List Nat} {ad1 ad2 : Option Addr} (hD : Blk w W [ptr p, ptr z, ptr q, .pointer none, .slice none 0 0, .slice none 0 0] 51) (hT : Tab w p fp [] m ad1 cap1) (hZ : Blk w z [.slice none 0 0, .map none] 54) (hR : RTab w q [] ad2 cap2)
    (h1 : ∀ b, b ∈ fp → w0.heap.size ≤ b ∧ b < s1) (h2 : ∀ b, b ∈ rfp q ad2 → s1 ≤ b ∧ b < s2) (h3 : w0.heap.size ≤ s1 ∧ s1 ≤ s2 ∧ s2 ≤ W ∧ W < z) : DS w0 w (dg0 W p z q fp (rfp q ad2)) := by
  have hzl := hZ.lt
  refine ⟨hD, fun k hk => ?_, ownS_nil _ _ _, ownS_nil _ _ _, fun i e he => by simp [dg0] at he, fun i e he => by simp [dg0] at he, fun i b hb => ?_, fun i b hb => ?_, fun i j hij b hb hb2 => ?_, fun k hk l hl => ?_, fun i e he => by simp [dg0] at he⟩
  · have : k = 0 ∨ k = 1 ∨ k = 2 ∨ k = 3 := by omega
    rcases this with rfl | rfl | rfl | rfl
    · exact ⟨p, m, ad1, cap1, rfl, hT⟩
    · exact ⟨.inr ⟨z, rfl, hZ⟩, fun p hp => by cases hp; rfl⟩
    · exact ⟨q, ad2, cap2, rfl, rfl, hR⟩
    · exact ⟨rfl, rfl⟩
  · rcases dg0_F hb with ⟨_, rfl⟩ | ⟨_, hb⟩ | ⟨_, rfl⟩ | ⟨_, hb⟩
    · omega
    · exact (h1 b hb).1
    · omega
    · have := h2 b hb; omega
  · rcases dg0_F hb with ⟨_, rfl⟩ | ⟨_, hb⟩ | ⟨_, rfl⟩ | ⟨_, hb⟩
    · exact hD.lt
    · exact hT.lt b hb
    · exact hzl
    · exact hR.lt b hb
  · rcases dg0_F hb with ⟨c1, e1⟩ | ⟨c1, e1⟩ | ⟨c1, e1⟩ | ⟨c1, e1⟩ <;> rcases dg0_F hb2 with ⟨c2, e2⟩ | ⟨c2, e2⟩ | ⟨c2, e2⟩ | ⟨c2, e2⟩ <;> first | exact hij (c1.trans c2.symm) | skip
    all_goals first | have r1 := h1 b e1 | have r1 := h2 b e1 | skip
    all_goals first | have r2 := h1 b e2 | have r2 := h2 b e2 | skip
    all_goals omega
  · have hl : (if k = 0 then some [] else if k = 1 then none else if k = 2 then some [] else none) = some l := hl
    have : k = 0 ∨ k = 1 ∨ k = 2 ∨ k = 3 := by omega
    rcases this with rfl | rfl | rfl | rfl <;> simp at hl <;> subst hl <;> simp
set_option maxHeartbeats 6400000 in
theorem namesPlays_ret (hP : PowW w) {sad : Option Addr} {scap : Nat} (script : List StG) (hs : ReadS w sad (script.flatMap stC)) (hn : script.length ≤ 1048576) (hok : ∀ s ∈ script, StOk w s) :
    Ret Tryd.prog 4 [.slice sad script.length scap] w (fun v w' => v = .bool true ∧ Kp [] w w') := by
  refine enter Tryd.call4 Tryd.func4 rfl rfl rfl rfl ?_
  (repeat first|refine zA ?_|refine zB ?_|refine zg ?_|refine zo rfl rfl trivial ?_|refine zn ?_)
  refine o_call works_ret rfl rfl rfl ?_
  rintro v w1 ⟨rfl, k1⟩
  (repeat first|refine zA ?_|refine zg ?_|refine zo rfl rfl trivial ?_|refine zn ?_|refine zk ?_|refine zf rfl ?_)
  refine o_call (new_ret (ad := none) (cap := 0) [] rfl (by simp) (by simp)) rfl rfl rfl ?_
  intro v w2 hp
  obtain ⟨p, fp, m, ad1, cap1, rfl, hT, k2, hfp⟩ : NewPost w1 w2 v (some [], 0) := hp
  (repeat first|refine zA ?_|refine zg ?_|refine zo rfl rfl trivial ?_|refine zn ?_)
  refine o_call (rnew_ret (ad := none) (cap := 0) [] rfl (by simp) (by simp)) rfl rfl rfl ?_
  intro v w3 hp
  obtain ⟨q, ad2, cap2, rfl, hR, k3, hfq⟩ : RNewPost w2 w3 v (some [], 0) := hp
  (repeat first|refine zA ?_|refine zB ?_|refine zg ?_|refine zo rfl rfl trivial ?_|refine zn ?_)
  refine o_call (num_ret _ _) rfl rfl rfl ?_
  rintro v w3' ⟨rfl, rfl⟩
  (repeat first|refine zA ?_|refine zg ?_|refine zo rfl rfl trivial ?_|refine zn ?_|refine zk ?_|refine zU rfl rfl rfl ?_|refine zf rfl ?_)
  refine o_build [.pointer none, .pointer none, .pointer none, .pointer none, .slice none 0 0, .slice none 0 0] rfl rfl rfl rfl rfl rfl rfl ?_
  refine o_box rfl rfl rfl ?_
  intro bd w4 hbd hu4
  have hB4 : Blk w4 bd [.pointer none, .pointer none, .pointer none, .pointer none, .slice none 0 0, .slice none 0 0] 51 := hu4.blk
  (repeat first|refine zA ?_|refine zg ?_|refine zo rfl rfl (by first|exact trivial|(simp only[AllP];omega)) ?_|refine zn ?_)
  refine o_store (b := bd) (off := 0) (v := ptr p) rfl hB4 (by simp) rfl rfl rfl rfl rfl rfl ?_
  intro w5 hu5
  (repeat first|refine zA ?_|refine zg ?_|refine zo rfl rfl trivial ?_|refine zn ?_)
  refine o_build [.slice none 0 0, .map none] rfl rfl rfl rfl rfl rfl rfl ?_
  refine o_box rfl rfl rfl ?_
  intro z w6 hz hu6
  have k6 : Kp [] w5 w6 := hu6.kp [] (.inr (by omega))
  (repeat refine zo rfl rfl (by first|exact trivial|(simp only[AllP];omega)) ?_)
  refine o_store (b := bd) (off := 1) (v := ptr z) rfl (k6.blk (by simp) hu5.blk) (by simp) rfl rfl rfl rfl rfl rfl ?_
  intro w7 hu7
  (repeat first|refine zA ?_|refine zg ?_|refine zo rfl rfl (by first|exact trivial|(simp only[AllP];omega)) ?_|refine zn ?_)
  refine o_store (b := bd) (off := 2) (v := ptr q) rfl hu7.blk (by simp) rfl rfl rfl rfl rfl rfl ?_
  intro w8 hu8
  have y1 := k1.size
  have y2 := k2.size
  have y3 := k3.size
  have y4 := hu4.size
  have y5 := hu5.size
  have y6 := hu6.size
  have t4 := hu4.lt
  have k4 : Kp [] w3' w4 := hu4.kp [] (.inr (by omega))
  have j5 : Kp [bd] w4 w5 := hu5.kp [bd] (.inl (by simp))
  have j7 : Kp [bd] w6 w7 := hu7.kp [bd] (.inl (by simp))
  have j8 : Kp [bd] w7 w8 := hu8.kp [bd] (.inl (by simp))
  have k38 : Kp [bd] w3' w8 := ((((k4.mono (by simp)).trans j5).trans (k6.mono (by simp))).trans j7).trans j8
  have k08 : Kp [] w w8 := ((k1.trans k2).trans k3).since k38 (by simp; omega)
  have hT8 : Tab w8 p fp [] m ad1 cap1 := (hT.kp k3 (by simp)).kp k38 (fun b hb => by have := hT.lt b hb; simp; omega)
  have hR8 : RTab w8 q [] ad2 cap2 := hR.kp k38 (fun b hb => by have := hR.lt b hb; simp; omega)
  have hZ8 : Blk w8 z [.slice none 0 0, .map none] 54 := j8.blk (by simp; omega) (j7.blk (by simp; omega) hu6.blk)
  have hd8 : DS w w8 (dg0 bd p z q fp (rfp q ad2)) := ds_start (s1 := w2.heap.size) (s2 := w3'.heap.size) hu8.blk hT8 hZ8 hR8 (fun b hb => ⟨by have := hfp b hb; omega, hT.lt b hb⟩) (fun b hb => ⟨hfq b hb, hR.lt b hb⟩) ⟨by omega, by omega, by omega, by omega⟩
  (repeat first|refine zA ?_|refine zB ?_|refine zg ?_|refine zo rfl rfl trivial ?_|refine zn ?_|refine zb ?_)
  refine r_loop (α := Nat) [0, 7, 8] (fun i => [.slice sad script.length scap, ptr bd, I i]) (fun i W => i ≤ script.length ∧ Kp [] w W ∧ ∃ g, DS w W g ∧ g.eqs ∧ g.W = bd ∧ g.es.length ≤ i) (fun i => script.length - i) 0 rfl ⟨Nat.zero_le _, k08, _, hd8, ⟨rfl, rfl⟩, rfl, Nat.le_refl _⟩ ?_
  rintro i e W ⟨hi, kW, g, hg, heq, rfl, hes⟩
  (repeat first|refine zA ?_|refine zB ?_|refine zg ?_|refine zo rfl rfl trivial ?_|refine zn ?_)
  refine r_if rfl (fun hc => ?_) (fun hc => ?_)
  · have hlt : i < script.length := by omega
    obtain ⟨a, hax⟩ : ∃ a, script[i]? = some a := ⟨_, List.getElem?_eq_getElem hlt⟩
    have hoa := (hok a (List.mem_of_getElem? hax)).kp kW
    obtain ⟨sb, so, rfl, hsb, hscell⟩ := hs.at_ (by rw [flC_len (f := stC) (m := 7) (fun _ => rfl)]; omega)
    (repeat first|refine zA ?_|refine zC ?_|refine zg ?_|refine zo rfl rfl (by first|exact trivial|(simp only[AllP];omega)) ?_|refine zb ?_|refine zk ?_)
    refine o_loadA (b := sb) (off := so + i * 7) (vs := stC a) rfl (fun j v hv => by rw [Nat.add_assoc, ← hscell _ v (flC_get (f := stC) (m := 7) (fun _ => rfl) hax hv)]; exact World.cell?_of_block (kW.at_ sb hsb (by simp))) rfl rfl rfl rfl rfl rfl ?_
    refine o_call (step_ret hP hg kW heq (hok a (List.mem_of_getElem? hax)) (by omega)) rfl rfl rfl ?_
    rintro v W2 ⟨rfl, kW2, g', hg', heq', hgW, hes'⟩
    (repeat first|refine zg ?_|refine zo rfl rfl (by first|exact trivial|(simp only[AllP];omega)) ?_|refine zn ?_|refine zk ?_|refine zf rfl ?_)
    exact ⟨i + 1, rfl, ⟨by omega, kW2, g', hg', heq', hgW, by omega⟩, by omega⟩
  · have hes9 : g.es.length ≤ 1048576 := by omega
    clear hi hc hes
    (repeat first|refine zA ?_|refine zB ?_|refine zg ?_|refine zo rfl rfl trivial ?_|refine zn ?_|refine zb ?_|refine ze rfl ?_)
    refine r_loop (α := Nat) [7, 9] (fun n => [ptr g.W, I n]) (fun n W2 => n ≤ 2 ∧ Kp [] w W2 ∧ ∃ g2, DS w W2 g2 ∧ g2.eqs ∧ g2.W = g.W ∧ g2.es.length = g.es.length) (fun n => 2 - n) 0 rfl ⟨Nat.zero_le _, kW, g, hg, heq, rfl, rfl⟩ ?_
    rintro n e2 W2 ⟨hn2, kW2, g2, hg2, heq2, hgW, hes2⟩
    (repeat first|refine zA ?_|refine zB ?_|refine zg ?_|refine zo rfl rfl trivial ?_|refine zn ?_)
    refine r_if rfl (fun hc => ?_) (fun hc => ?_)
    · have hn3 : n < 2 := by omega
      (repeat first|refine zA ?_|refine zC ?_|refine zg ?_|refine zo rfl rfl trivial ?_|refine zb ?_|refine zk ?_)
      refine o_call (show Ret Tryd.prog _ [ptr g.W, I n, I 0] W2 _ from hgW ▸ walk_ret hg2 kW2 heq2 hn3 (by decide)) rfl rfl rfl ?_
      rintro v W3 ⟨rfl, kW3, f', o', hd3, he3⟩
      (repeat first|refine zg ?_|refine zo rfl rfl (by first|exact trivial|(simp only[AllP];omega)) ?_|refine zn ?_|refine zk ?_|refine zf rfl ?_)
      exact ⟨n + 1, rfl, ⟨by omega, kW3, _, hd3, he3, rfl, hes2⟩, by omega⟩
    · (repeat first|refine zA ?_|refine zg ?_|refine zo rfl rfl trivial ?_|refine ze rfl ?_)
      refine o_call (show Ret Tryd.prog _ [ptr g.W] W2 _ from hgW ▸ apart_ret hg2 kW2 (by omega)) rfl rfl rfl ?_
      rintro v W3 ⟨rfl, kW3⟩
      (repeat first|refine zo rfl rfl trivial ?_|refine zn ?_|refine zr ?_)
      exact ⟨_, rfl, rfl, kW3⟩
end Go.Vc
/- Reading of NamesPlays' script, and its call as its frame asks it. -/
namespace Go.Vc
open Go Go.Proofs Go.ChangeShapes Go.WideShapes Go.ChangeAt Go.RowKit
set_option maxRecDepth 10000
section
variable {H : Type} {enc : TypeId × Value → H} {w : World} {base : Nat} {sp : Nat → Bool} {held : Bool} {fuel : Nat} {d : DataW H} {ps : List MemPlace}
theorem wfN {x : Int} (h : (Lit.int .i64 x).wf = true) : inI x := by unfold inI; simpa [Lit.wf, IntKind.min, IntKind.max, IntKind.signed, IntKind.bits] using h
theorem bulkR_mem {H : Type} {d : DataW H} : ∀ {l : List (DataW H)}, d ∈ l → Go.Proofs.YtghdpibdidfpbaaDoor.Rows.uptoBulk d ≤ Go.Proofs.YtghdpibdidfpbaaDoor.Rows.uptoBulkAll l
  | [], h => by simp at h
  | x :: r, h => by
    simp only [Go.Proofs.YtghdpibdidfpbaaDoor.Rows.uptoBulkAll]
    rcases List.mem_cons.1 h with rfl | h
    · omega
    · have := bulkR_mem h; omega
theorem rdS_strsB {v : Value} {x : DataW H × List MemPlace} (h : DataW.trod enc Tryd.prog w base sp held fuel 22 [v] = some x) :
    ∃ a cap, ∃ l : List Str, v = .slice a l.length cap ∧ ReadS w a (l.map S) ∧ (∀ s ∈ l, s.length ≤ 9223372036854775807) ∧ l.length ≤ Go.Proofs.YtghdpibdidfpbaaDoor.Rows.uptoBulk x.1 := by
  obtain ⟨d, ps⟩ := x
  rcases open_strings Tryd.underlying22 Tryd.underlying9 (by kernel_rfl) h with ⟨hcs, _⟩ | ⟨x, l, c, ss, hcs, _, hl, hm, hz, hd, hcell, hwz⟩
  · obtain rfl := List.head_eq_of_cons_eq hcs
    exact ⟨none, 0, [], rfl, rfl, by simp, by simp⟩
  · obtain rfl := List.head_eq_of_cons_eq hcs
    obtain ⟨l', ⟨h1, h2, h3, h4⟩, h5⟩ := rd_strs (a := some x) (len := l) (cap := c) h
    exact ⟨some x, c, l', by rw [h2], h1, h3, h5⟩
theorem rd_steps {a : Option Addr} {len cap : Nat} (h : DataW.trod enc Tryd.prog w base sp held fuel 42 (Value.slice a len cap).cells.toList = some (d, ps)) :
    ∃ xs : List StG, (ReadS w a (xs.flatMap stC) ∧ xs.length = len ∧ ∀ x ∈ xs, ∀ B, Go.Proofs.YtghdpibdidfpbaaDoor.Rows.uptoBulk d ≤ B → B ≤ 1048576 → StOk w x) ∧ xs.length ≤ Go.Proofs.YtghdpibdidfpbaaDoor.Rows.uptoBulk d := by
  obtain ⟨n, Cs, D, h1, h2, h3, h4, h5, hcap, _⟩ := trod_recs (m := 7) Tryd.underlying42 (by kernel_rfl) h
  have hall : Go.Proofs.YtghdpibdidfpbaaDoor.Rows.uptoBulkAll D ≤ Go.Proofs.YtghdpibdidfpbaaDoor.Rows.uptoBulk d := by
    rcases h5 with ⟨e1, e2⟩ | ⟨spp, e1⟩
    · rw [e2]; simp [Go.Proofs.YtghdpibdidfpbaaDoor.Rows.uptoBulkAll]
    · dsimp only at e1
      rw [e1]
      simp only [Go.Proofs.YtghdpibdidfpbaaDoor.Rows.uptoBulk]; omega
  have key : ∀ cs ∈ Cs, ∃ x : StG, cs = stC x ∧ ∀ B, Go.Proofs.YtghdpibdidfpbaaDoor.Rows.uptoBulk d ≤ B → B ≤ 1048576 → StOk w x := by
    intro cs hcs
    obtain ⟨i, hi⟩ := List.getElem?_of_mem hcs
    obtain ⟨g1, d', p', g3, g2⟩ := h4 i cs hi
    obtain ⟨xs, m, _, gx, _, g5, g6⟩ := DataW.trod_struct Tryd.underlying58 g2
    have hd' := bulkR_mem (List.mem_of_getElem? g3)
    have gd := congrArg Prod.fst gx
    dsimp only at gd
    match cs, g1 with
    | [c0, c1, c2, c3, c4, c5, c6], _ =>
      have f0 := g6 0 _ rfl
      have f1 := g6 1 _ rfl
      have f2 := g6 2 _ rfl
      have f3 := g6 3 _ rfl
      have f4 := g6 4 _ rfl
      have f5 := g6 5 _ rfl
      have f6 := g6 6 _ rfl
      have l6 : xs.length = 7 := g5
      rw [List.getElem?_eq_getElem (by omega)] at f0 f1 f2 f3 f4 f5 f6
      obtain ⟨z0, rfl, w0⟩ := trod_int (k := .i64) (by kernel_rfl) f0
      obtain ⟨z1, rfl, w1⟩ := trod_int (k := .i64) (by kernel_rfl) f1
      obtain ⟨z2, rfl, w2, _⟩ := trod_str (by kernel_rfl) f2
      obtain ⟨z3, rfl, w3⟩ := trod_int (k := .i64) (by kernel_rfl) f3
      obtain ⟨z4, rfl⟩ := trod_flt (k := .f64) (by kernel_rfl) f4
      have f5' : DataW.trod enc Tryd.prog w base sp held m 22 [c5] = some xs[5] := f5
      obtain ⟨a5, k5, l5, rfl, r1, r2, r3⟩ := rdS_strsB f5'
      obtain ⟨z6, rfl, w6⟩ := trod_int (k := .i64) (by kernel_rfl) f6
      have m5 : Go.Proofs.YtghdpibdidfpbaaDoor.Rows.uptoBulk xs[5].1 ≤ Go.Proofs.YtghdpibdidfpbaaDoor.Rows.uptoBulkAll (xs.map (·.1)) := bulkR_mem (List.mem_map.2 ⟨_, List.getElem_mem _, rfl⟩)
      rw [gd] at hd'
      simp only [Go.Proofs.YtghdpibdidfpbaaDoor.Rows.uptoBulk] at hd'
      exact ⟨⟨z0, z1, z2.data.toList, z3, z4, a5, k5, l5, z6⟩, rfl, fun B hB hB2 => ⟨wfN w0, wfN w1, wfN w3, wfN w6, by simpa [maxLen] using w2, r1, r2, by dsimp only; omega⟩⟩
  have flat : ∀ Ds : List (List Value), (∀ cs ∈ Ds, ∃ x : StG, cs = stC x ∧ ∀ B, Go.Proofs.YtghdpibdidfpbaaDoor.Rows.uptoBulk d ≤ B → B ≤ 1048576 → StOk w x) → ∃ l : List StG, Ds = l.map stC ∧ ∀ x ∈ l, ∀ B, Go.Proofs.YtghdpibdidfpbaaDoor.Rows.uptoBulk d ≤ B → B ≤ 1048576 → StOk w x := by
    intro Ds
    induction Ds with
    | nil => intro _; exact ⟨[], rfl, by simp⟩
    | cons c r ih =>
      intro hh
      obtain ⟨x, hx, hp⟩ := hh c (by simp)
      obtain ⟨l, hl, hq⟩ := ih (fun cs hcs => hh cs (by simp [hcs]))
      refine ⟨x :: l, by rw [hx, hl]; rfl, fun y hy => ?_⟩
      rcases List.mem_cons.1 hy with rfl | hy
      · exact hp
      · exact hq y hy
  obtain ⟨xs, hxs, hp⟩ := flat Cs key
  have hl : xs.length = len := by rw [← h1, hxs]; simp
  refine ⟨xs, ⟨?_, hl, hp⟩, ?_⟩
  · rw [hxs] at h3
    rw [List.flatMap_def]; exact h3
  · rw [hl, ← h2]
    have := bulkR_lenA D
    omega
end
variable {w : World}
theorem namesPlays_walk (hP : PowW w) {a : Option Addr} {len cap : Nat} {xs : List StG} {u : Nat} (h : ReadS w a (xs.flatMap stC) ∧ xs.length = len ∧ ∀ x ∈ xs, ∀ B, u ≤ B → B ≤ 1048576 → StOk w x) (hl : xs.length ≤ u) (hu : u + 0 ≤ 1048576) :
    Calls Tryd.prog 4 #[.slice a len cap] w (fun e w' => e = .returned (.bool true) ∧ Below w.heap.size w w') := by
  obtain ⟨h1, rfl, h2⟩ := h
  exact (namesPlays_ret hP xs h1 (by omega) (fun s hs => h2 s hs 1048576 (by omega) (Nat.le_refl _))).calls
end Go.Vc
