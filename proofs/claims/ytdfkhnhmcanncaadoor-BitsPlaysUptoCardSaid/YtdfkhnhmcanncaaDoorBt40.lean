/- bits: the book of BitsPlays: numbers, bits. -/
import Derived.Test.YtdfkhnhmcanncaaDoorBt39
namespace Go.Vc
open Go Go.Proofs
set_option maxRecDepth 10000
variable {w : World}

structure Sc where
  a : Option Addr
  n : Nat
  c : Nat
def Sc.v (s : Sc) : Value := .slice s.a s.n s.c
def Sc.none : Sc := ⟨Option.none, 0, 0⟩
/-- a list that was told: itself, grown; of words: itself, grown; its mark -/
structure Ent where
  i : Sc
  mo : Sc
  u : Sc
  gr : Sc
  m : Int
def mk64 (m : Int) : Value := .int .u64 (IntKind.u64.wrap m)
structure ScOk (w : World) (Cst : List Nat) (s : Sc) (v : Value) : Prop where
  rd : ReadS w s.a (List.replicate s.n v)
  keep : ∀ b, b ∈ blkOf s.a → b ∈ Cst
  small : s.n ≤ 9223372036854775807
structure EntOk (w : World) (Cst : List Nat) (e : Ent) : Prop where
  i : ScOk w Cst e.i (I e.m)
  mo : ScOk w Cst e.mo (I e.m)
  u : ScOk w Cst e.u (mk64 e.m)
  gr : ScOk w Cst e.gr (mk64 e.m)
theorem ScOk.nil {Cst : List Nat} {v : Value} : ScOk w Cst Sc.none v := ⟨rfl, by simp [Sc.none, blkOf], by simp [Sc.none]⟩
theorem ScOk.kp {w' : World} {Cst Cst' S : List Nat} {s : Sc} {v : Value} (h : ScOk w Cst s v) (hk : Kp S w w') (hC : ∀ b, b ∈ Cst → b ∉ S) (hs : ∀ b, b ∈ Cst → b ∈ Cst') : ScOk w' Cst' s v :=
  ⟨h.rd.kp hk (fun b hb => hC b (h.keep b hb)), fun b hb => hs b (h.keep b hb), h.small⟩
theorem EntOk.kp {w' : World} {Cst Cst' S : List Nat} {e : Ent} (h : EntOk w Cst e) (hk : Kp S w w') (hC : ∀ b, b ∈ Cst → b ∉ S) (hs : ∀ b, b ∈ Cst → b ∈ Cst') : EntOk w' Cst' e :=
  ⟨h.i.kp hk hC hs, h.mo.kp hk hC hs, h.u.kp hk hC hs, h.gr.kp hk hC hs⟩
/-- the book's ghost -/
structure BGh where
  ad : Nat → Option Addr
  cp : Nat → Nat
  row : Nat → List Value
  Cst : List Nat
  ents : List Ent
  sqs : List (Value × List Nat)
  wts : List Sc
  wl : List (List Nat)
/-- what the book's lists hold -/
structure PC (w : World) (Cst : List Nat) (ents : List Ent) (sqs : List (Value × List Nat)) (wts : List Sc) : Prop where
  ent : ∀ e ∈ ents, EntOk w Cst e
  sq : ∀ s ∈ sqs, s.1.oneCell' = true ∧ s.2.length ≤ 16777216 ∧ ∃ Fp, SeqIs w s.1 Fp s.2 ∧ ∀ b, b ∈ Fp → b ∈ Cst
  n : wts.length = sqs.length
  wt : ∀ (i : Nat) (t : Sc) (s : Value × List Nat), wts[i]? = some t → sqs[i]? = some s → t.n = s.2.length ∧ ReadS w t.a (s.2.map encI) ∧ t.n ≤ t.c ∧ ∀ b, b ∈ blkOf t.a → b ∈ Cst
theorem PC.kp {w' : World} {Cst Cst' S : List Nat} {ents : List Ent} {sqs : List (Value × List Nat)} {wts : List Sc} (h : PC w Cst ents sqs wts) (hk : Kp S w w') (hC : ∀ b, b ∈ Cst → b ∉ S) (hs : ∀ b, b ∈ Cst → b ∈ Cst') : PC w' Cst' ents sqs wts where
  ent e he := (h.ent e he).kp hk hC hs
  sq s hs' := by
    obtain ⟨h1, h2, Fp, h3, h4⟩ := h.sq s hs'
    exact ⟨h1, h2, Fp, h3.kp hk (fun b hb => hC b (h4 b hb)), fun b hb => hs b (h4 b hb)⟩
  n := h.n
  wt i t s h1 h2 := by
    obtain ⟨g1, g2, g3, g4⟩ := h.wt i t s h1 h2
    exact ⟨g1, g2.kp hk (fun b hb => hC b (g4 b hb)), g3, fun b hb => hs b (g4 b hb)⟩
structure Rows (row : Nat → List Value) (ents : List Ent) (sqs : List (Value × List Nat)) (wts : List Sc) : Prop where
  r0 : row 0 = ents.map fun e => e.i.v
  r1 : row 1 = ents.map fun e => e.mo.v
  r2 : row 2 = ents.map fun e => e.u.v
  r3 : row 3 = ents.map fun e => e.gr.v
  r4 : row 4 = ents.map fun e => I e.m
  r5 : row 5 = sqs.map (·.1)
  r6 : row 6 = wts.map Sc.v
structure PX (w0 w : World) (W : Nat) (sl : Nat → Option Sl) (g : BGh) : Prop where
  pi : PI w0 w W sl g.ad g.cp g.row g.Cst
  pc : PC w g.Cst g.ents g.sqs g.wts
  rows : Rows g.row g.ents g.sqs g.wts
section
variable {w0 : World} {W : Nat} {sl : Nat → Option Sl} {ad : Nat → Option Addr} {cp : Nat → Nat} {row : Nat → List Value} {Cst : List Nat} {g : BGh}
theorem PI.cst (h : PI w0 w W sl ad cp row Cst) {k : Nat} (hk7 : k < 7) : ∀ b, b ∈ Cst → b ∉ W :: blkOf (ad k) := fun b hb hb2 => by
  have hbi : b ∈ DD sl W ad Cst 12 := by rw [dd_C]; exact hb
  rcases List.mem_cons.1 hb2 with e | hb2
  · exact h.W_away (by omega) hbi e
  · exact h.dj.sep 12 (k + 4) b (by omega) hbi (by rw [dd_ad hk7]; exact hb2)
theorem PX.frame {w' : World} {S : List Nat} (h : PX w0 w W sl g) (hk : Kp S w w') (hS : ∀ b, b ∈ S → ∀ i, b ∉ DD sl W g.ad g.Cst i) (h0 : ∀ b, b ∈ S → w0.heap.size ≤ b) : PX w0 w' W sl g :=
  ⟨h.pi.frame hk hS h0, h.pc.kp hk (fun b hb hb2 => hS b hb2 12 (by rw [dd_C]; exact hb)) (fun b hb => hb), h.rows⟩
theorem PX.kp0 {w' : World} (h : PX w0 w W sl g) (hk : Kp [] w w') : PX w0 w' W sl g := h.frame hk (by simp) (by simp)
theorem PX.sm {w' : World} (h : PX w0 w W sl g) (hk : Sm w w') : PX w0 w' W sl g := h.kp0 (hk.kp [])
/-- one element of a row of one's own is written -/
theorem OwnS.wr {T : TypeId} {ad : Option Addr} {n cap i : Nat} {xs : List Value} (h : OwnS w T 1 ad n cap xs) (hi : i < n) :
    ∃ b L, ad = some ⟨b, 0, none⟩ ∧ Blk w b L T ∧ i < L.length ∧ ∀ (v : Value) (w' : World), Upd w b (.cells ⟨L.set i v⟩ T (0, 0)) w' → OwnS w' T 1 ad n cap (xs.set i v) := by
  have hl := h.1
  cases ad with
  | none => obtain ⟨h1, _⟩ := h.2; omega
  | some ad =>
    obtain ⟨b, off, spot⟩ := ad
    obtain ⟨h1, h2, h3, h4, junk, h5, h6⟩ := h.2
    dsimp only at h1 h2 h5
    subst h1 h2
    refine ⟨b, xs ++ junk, rfl, h5, by rw [List.length_append]; omega, fun v w' hu => ⟨by simpa using hl, rfl, rfl, h3, h4, junk, ?_, by simpa using h6⟩⟩
    have := hu.blk
    rw [List.set_append_left _ _ (by omega)] at this
    exact this
theorem book_away {ad' : Nat → Option Addr} {F : List Nat} {b : Nat} (h : ∀ i, b ∉ DD sl W ad Cst i) (h1 : ∀ k, k < 7 → b ∈ blkOf (ad' k) → b ∈ blkOf (ad k) ∨ w.heap.size ≤ b) (h2 : b ∉ F) (hb : b < w.heap.size) : ∀ i, b ∉ DD sl W ad' (F ++ Cst) i := by
  intro i hi
  unfold DD at hi
  by_cases h4 : i < 4
  · rw [if_pos h4] at hi; exact h i (by rw [dd_sl h4]; exact hi)
  · rw [if_neg h4] at hi
    by_cases h11 : i < 11
    · rw [if_pos h11] at hi
      rcases h1 (i - 4) (by omega) hi with h3 | h3
      · exact h (i - 4 + 4) (by rw [dd_ad (by omega)]; exact h3)
      · omega
    · rw [if_neg h11] at hi
      by_cases h12 : i = 11
      · rw [if_pos h12] at hi; exact h 11 (by rw [dd_W]; exact hi)
      · rw [if_neg h12] at hi
        by_cases h13 : i = 12
        · rw [if_pos h13] at hi
          rcases List.mem_append.1 hi with h3 | h3
          · exact h2 h3
          · exact h 12 (by rw [dd_C]; exact h3)
        · rw [if_neg h13] at hi; simp at hi
/-- how far a list has been laid into the book -/
structure St (w0 w : World) (W : Nat) (sl : Nat → Option Sl) (g : BGh) (a : Option Addr) (C' : List Nat) (vs : Nat → Value) (e : Ent) (k : Nat) (wk : World) (adk : Nat → Option Addr) (cpk : Nat → Nat) (rowk : Nat → List Value) : Prop where
  pi : PI w0 wk W sl adk cpk rowk C'
  pc : PC wk C' g.ents g.sqs g.wts
  ent : EntOk wk C' e
  row : ∀ j, rowk j = if j < k then g.row j ++ [vs j] else g.row j
  ad : ∀ j b, j < 7 → b ∈ blkOf (adk j) → b ∈ blkOf (g.ad j) ∨ w.heap.size ≤ b
  fr : ∀ b, b < w.heap.size → b ∉ blkOf a → (∀ i, b ∉ DD sl W g.ad g.Cst i) → wk.heap[b]? = w.heap[b]?
  size : w.heap.size ≤ wk.heap.size
theorem St.push {a : Option Addr} {C' : List Nat} {vs : Nat → Value} {e : Ent} {k k' : Nat} {wk w1 w2 w3 : World} {adk : Nat → Option Addr} {cpk : Nat → Nat} {rowk : Nat → List Value} (h : St w0 w W sl g a C' vs e k wk adk cpk rowk) (hk7 : k < 7) (hk' : k' = k + 1) {v : Value} (hv : v = vs k) {ad' : Option Addr} {cap' : Nat} (k1 : Kp [] wk w1)
    (ho : OwnS w2 (tys k) 1 ad' ((rowk k).length + 1) cap' (rowk k ++ [v])) (k2 : Kp (blkOf (adk k)) w1 w2) (hnew : ∀ b, b ∈ blkOf ad' → b ∈ blkOf (adk k) ∨ w1.heap.size ≤ b)
    (hu : Upd w2 W (.cells ⟨(rowL 15 (wf sl adk cpk rowk)).set (8 + k) (.slice ad' ((rowk k).length + 1) cap')⟩ 90 (0, 0)) w3) :
    ∃ ad cp row, St w0 w W sl g a C' vs e k' w3 ad cp row := by
  subst hk'
  obtain ⟨hP, hk⟩ := h.pi.push hk7 k1 ho k2 hnew hu
  refine ⟨_, _, _, hP, h.pc.kp hk (h.pi.cst hk7) (fun b hb => hb), h.ent.kp hk (h.pi.cst hk7) (fun b hb => hb), fun j => ?_, fun j b hj hb => ?_, fun b h1 h2 h3 => ?_, Nat.le_trans h.size hk.size⟩
  · by_cases hj : j = k
    · subst hj
      rw [up_same, if_pos (by omega), h.row, if_neg (by omega), hv]
    · rw [up_ne _ _ hj, h.row]
      by_cases hjk : j < k
      · rw [if_pos hjk, if_pos (by omega)]
      · rw [if_neg hjk, if_neg (by omega)]
  · by_cases hjk : j = k
    · subst hjk
      rw [up_same] at hb
      rcases hnew b hb with h1 | h1
      · exact h.ad j b hj h1
      · have := h.size; have := k1.size; exact .inr (by omega)
    · rw [up_ne _ _ hjk] at hb
      exact h.ad j b hj hb
  · rw [← h.fr b h1 h2 h3]
    refine hk.at_ b (by have := h.size; omega) fun hb => ?_
    rcases List.mem_cons.1 hb with e | hb
    · exact h3 11 (by rw [dd_W, e]; simp)
    · rcases h.ad k b hk7 hb with h4 | h4
      · exact h3 (k + 4) (by rw [dd_ad hk7]; exact h4)
      · omega
theorem St.len {a : Option Addr} {C' : List Nat} {vs : Nat → Value} {e : Ent} {k : Nat} {wk : World} {adk : Nat → Option Addr} {cpk : Nat → Nat} {rowk : Nat → List Value} (h : St w0 w W sl g a C' vs e k wk adk cpk rowk) (hr : Rows g.row g.ents g.sqs g.wts) (hk : k < 5) : (rowk k).length = g.ents.length := by
  rw [h.row, if_neg (by omega)]
  match k, hk with
  | 0, _ => rw [hr.r0]; simp
  | 1, _ => rw [hr.r1]; simp
  | 2, _ => rw [hr.r2]; simp
  | 3, _ => rw [hr.r3]; simp
  | 4, _ => rw [hr.r4]; simp
theorem St.done {a : Option Addr} {F : List Nat} {vs : Nat → Value} {e : Ent} {w5 : World} {ad5 : Nat → Option Addr} {cp5 : Nat → Nat} {row5 : Nat → List Value} (h : St w0 w W sl g a (F ++ g.Cst) vs e 5 w5 ad5 cp5 row5) (hr : Rows g.row g.ents g.sqs g.wts) (hF : ∀ b, b ∈ F → b ∈ blkOf a ∨ w.heap.size ≤ b)
    (h0 : vs 0 = e.i.v) (h1 : vs 1 = e.mo.v) (h2 : vs 2 = e.u.v) (h3 : vs 3 = e.gr.v) (h4 : vs 4 = I e.m) :
    ∃ g', PX w0 w5 W sl g' ∧ g'.ents.length = g.ents.length + 1 ∧ g'.sqs = g.sqs ∧ (∀ b, b < w.heap.size → b ∉ blkOf a → (∀ i, b ∉ DD sl W g.ad g.Cst i) → w5.heap[b]? = w.heap[b]? ∧ ∀ i, b ∉ DD sl W g'.ad g'.Cst i) := by
  refine ⟨⟨ad5, cp5, row5, F ++ g.Cst, g.ents ++ [e], g.sqs, g.wts, g.wl⟩, ⟨h.pi, ⟨fun e' he => ?_, h.pc.sq, h.pc.n, h.pc.wt⟩, ?_⟩, by simp, rfl, fun b b1 b2 b3 => ⟨h.fr b b1 b2 b3, ?_⟩⟩
  · rcases List.mem_append.1 he with he | he
    · exact h.pc.ent e' he
    · simp at he; rw [he]; exact h.ent
  · constructor
    · dsimp only; rw [h.row, if_pos (by omega), hr.r0, h0]; simp
    · dsimp only; rw [h.row, if_pos (by omega), hr.r1, h1]; simp
    · dsimp only; rw [h.row, if_pos (by omega), hr.r2, h2]; simp
    · dsimp only; rw [h.row, if_pos (by omega), hr.r3, h3]; simp
    · dsimp only; rw [h.row, if_pos (by omega), hr.r4, h4]; simp
    · dsimp only; rw [h.row, if_neg (by omega), hr.r5]
    · dsimp only; rw [h.row, if_neg (by omega), hr.r6]
  · exact book_away b3 (fun k hk hb => h.ad k b hk hb) (fun hb => by
      rcases hF b hb with h5 | h5
      · exact b2 h5
      · omega) b1
set_option maxHeartbeats 3200000 in
theorem numbers_ret (hg : PX w0 w W sl g) {a : Option Addr} {n c : Nat} {xs : List Value} (hl : OwnS w 3 1 a n c xs) (haw : ∀ b, b ∈ blkOf a → w0.heap.size ≤ b ∧ ∀ i, b ∉ DD sl W g.ad g.Cst i) (hn : n ≤ 1073741824) (hcnt : g.ents.length ≤ 1073741824) :
    Ret Tryd.prog 89 [.pointer (some ⟨W, 8, none⟩), .slice a n c] w (fun v w' => v = .tuple #[] ∧ ∃ g', PX w0 w' W sl g' ∧ g'.ents.length = g.ents.length + 1 ∧ g'.sqs = g.sqs ∧ (∀ b, b < w.heap.size → b ∉ blkOf a → (∀ i, b ∉ DD sl W g.ad g.Cst i) → w'.heap[b]? = w.heap[b]? ∧ ∀ i, b ∉ DD sl W g'.ad g'.Cst i)) := by
  have hr4 : (g.row 4).length = g.ents.length := (congrArg List.length hg.rows.r4).trans (List.length_map _)
  refine enter Tryd.call89 Tryd.func89 rfl rfl rfl rfl ?_
  (repeat first|refine zA ?_|refine zB ?_|refine zC ?_|refine zD ?_|refine zE ?_|refine zg ?_|refine zo rfl rfl (by first|exact trivial|(simp only[AllP];omega)|(simp(discharger:=omega)only[AllP,cA,cB];omega)|(simp only[AllP,cC,cD,cE,cF,cG];omega)) ?_|refine zn ?_|refine zb ?_|refine ze rfl ?_|refine zr ?_|refine zk ?_|refine zT rfl rfl rfl ?_|refine zU rfl rfl rfl ?_|refine zV rfl rfl rfl ?_|refine zf rfl ?_|refine zt rfl ?_)
  refine o_load (v := .slice (g.ad 4) (g.row 4).length (g.cp 4)) rfl hg.pi.hdr rfl rfl rfl rfl rfl ?_
  (repeat first|refine zA ?_|refine zB ?_|refine zC ?_|refine zD ?_|refine zE ?_|refine zg ?_|refine zo rfl rfl (by first|exact trivial|(simp only[AllP];omega)|(simp(discharger:=omega)only[AllP,cA,cB];omega)|(simp only[AllP,cC,cD,cE,cF,cG];omega)) ?_|refine zn ?_|refine zb ?_|refine ze rfl ?_|refine zr ?_|refine zk ?_|refine zT rfl rfl rfl ?_|refine zU rfl rfl rfl ?_|refine zV rfl rfl rfl ?_|refine zf rfl ?_|refine zt rfl ?_)
  rw [hr4]
  obtain ⟨m, hm⟩ : ∃ m : Int, m = -2 - (g.ents.length : Int) := ⟨_, rfl⟩
  refine r_loop (α := Nat × List Value) [0, 1, 4, 5] (fun x => [.pointer (some ⟨W, 8, none⟩), .slice a n c, I m, I x.1]) (fun x w1 => OwnS w1 3 1 a n c x.2 ∧ Kp (blkOf a) w w1 ∧ x.1 ≤ n ∧ ∀ j, j < x.1 → x.2[j]? = some (I m)) (fun x => n - x.1) (0, xs) (by rw [hm]; rfl) ⟨hl, Kp.refl _ _, by omega, fun j hj => by dsimp only at hj; omega⟩ ?_
  rintro ⟨i, ys⟩ e w1 ⟨ho, hk1, hi, hall⟩
  dsimp only at ho hi hall ⊢
  (repeat first|refine zA ?_|refine zB ?_|refine zC ?_|refine zD ?_|refine zE ?_|refine zg ?_|refine zo rfl rfl (by first|exact trivial|(simp only[AllP];omega)|(simp(discharger:=omega)only[AllP,cA,cB];omega)|(simp only[AllP,cC,cD,cE,cF,cG];omega)) ?_|refine zn ?_|refine zb ?_|refine ze rfl ?_|refine zr ?_|refine zk ?_|refine zT rfl rfl rfl ?_|refine zU rfl rfl rfl ?_|refine zV rfl rfl rfl ?_|refine zf rfl ?_|refine zt rfl ?_)
  refine r_if rfl (fun hc => ?_) (fun hc => ?_)
  · obtain ⟨b, L, hae, hb, hbl, hset⟩ := ho.wr (i := i) (by omega)
    rw [hae]
    (repeat first|refine zA ?_|refine zB ?_|refine zC ?_|refine zD ?_|refine zE ?_|refine zg ?_|refine zo rfl rfl (by first|exact trivial|(simp only[AllP];omega)|(simp(discharger:=omega)only[AllP,cA,cB];omega)|(simp only[AllP,cC,cD,cE,cF,cG];omega)) ?_|refine zn ?_|refine zb ?_|refine ze rfl ?_|refine zr ?_|refine zk ?_|refine zT rfl rfl rfl ?_|refine zU rfl rfl rfl ?_|refine zV rfl rfl rfl ?_|refine zf rfl ?_|refine zt rfl ?_)
    refine o_store (b := b) (off := i) (v := I m) (c := none) ?_ hb hbl rfl rfl rfl rfl rfl rfl ?_
    · show Value.pointer (some ⟨b, 0 + i, none⟩) = _
      rw [Nat.zero_add]
    intro w2 hu2
    (repeat first|refine zA ?_|refine zB ?_|refine zC ?_|refine zD ?_|refine zE ?_|refine zg ?_|refine zo rfl rfl (by first|exact trivial|(simp only[AllP];omega)|(simp(discharger:=omega)only[AllP,cA,cB];omega)|(simp only[AllP,cC,cD,cE,cF,cG];omega)) ?_|refine zn ?_|refine zb ?_|refine ze rfl ?_|refine zr ?_|refine zk ?_|refine zT rfl rfl rfl ?_|refine zU rfl rfl rfl ?_|refine zV rfl rfl rfl ?_|refine zf rfl ?_|refine zt rfl ?_)
    have ho2 := hset _ w2 hu2
    refine ⟨(i + 1, ys.set i (I m)), rfl, ⟨by rw [← hae]; exact ho2, ?_, by dsimp only; omega, fun j hj => ?_⟩, by dsimp only; omega⟩
    · rw [← hae]; exact hk1.trans (hu2.kp _ (.inl (by rw [hae]; simp [blkOf])))
    · dsimp only at hj ⊢
      rw [List.getElem?_set]
      have hly := ho.1
      by_cases hij : i = j
      · rw [if_pos hij, if_pos (by omega)]
      · rw [if_neg hij]; exact hall j (by omega)
  have hin : i = n := by omega
  subst hin
  have hys : ys = List.replicate i (I m) := by
    have hly := ho.1
    apply List.ext_getElem?
    intro j
    rw [List.getElem?_replicate]
    by_cases hj : j < i
    · rw [if_pos hj]; exact hall j hj
    · rw [if_neg hj, List.getElem?_eq_none (by omega)]
  subst hys
  (repeat first|refine zA ?_|refine zB ?_|refine zC ?_|refine zD ?_|refine zE ?_|refine zg ?_|refine zo rfl rfl (by first|exact trivial|(simp only[AllP];omega)|(simp(discharger:=omega)only[AllP,cA,cB];omega)|(simp only[AllP,cC,cD,cE,cF,cG];omega)) ?_|refine zn ?_|refine zb ?_|refine ze rfl ?_|refine zr ?_|refine zk ?_|refine zT rfl rfl rfl ?_|refine zU rfl rfl rfl ?_|refine zV rfl rfl rfl ?_|refine zf rfl ?_|refine zt rfl ?_)
  have hlt : ∀ b, b ∈ blkOf a → b < w.heap.size := hl.lt
  refine r_loop (α := Nat × Option Addr × Nat) [0, 1, 4, 6, 7] (fun x => [.pointer (some ⟨W, 8, none⟩), .slice a i c, I m, .slice x.2.1 (i + x.1) x.2.2, I x.1]) (fun x w1 => OwnS w1 3 1 x.2.1 (i + x.1) x.2.2 (List.replicate (i + x.1) (I m)) ∧ ReadS w1 a (List.replicate i (I m)) ∧ Kp (blkOf a) w w1 ∧ (x.2.1 = a ∨ ∀ b, b ∈ blkOf x.2.1 → w.heap.size ≤ b) ∧ x.1 ≤ 70) (fun x => 70 - x.1) (0, a, c) rfl ⟨ho, ho.read, hk1, .inl rfl, by omega⟩ ?_
  rintro ⟨k, ad2, cap2⟩ e w2 ⟨ho2, hrd2, hk2, hal, hk70⟩
  dsimp only at ho2 hal hk70 ⊢
  (repeat first|refine zA ?_|refine zB ?_|refine zC ?_|refine zD ?_|refine zE ?_|refine zg ?_|refine zo rfl rfl (by first|exact trivial|(simp only[AllP];omega)|(simp(discharger:=omega)only[AllP,cA,cB];omega)|(simp only[AllP,cC,cD,cE,cF,cG];omega)) ?_|refine zn ?_|refine zb ?_|refine ze rfl ?_|refine zr ?_|refine zk ?_|refine zT rfl rfl rfl ?_|refine zU rfl rfl rfl ?_|refine zV rfl rfl rfl ?_|refine zf rfl ?_|refine zt rfl ?_)
  refine r_if rfl (fun hc2 => ?_) (fun hc2 => ?_)
  · (repeat first|refine zA ?_|refine zB ?_|refine zC ?_|refine zD ?_|refine zE ?_|refine zg ?_|refine zo rfl rfl (by first|exact trivial|(simp only[AllP];omega)|(simp(discharger:=omega)only[AllP,cA,cB];omega)|(simp only[AllP,cC,cD,cE,cF,cG];omega)) ?_|refine zn ?_|refine zb ?_|refine ze rfl ?_|refine zr ?_|refine zk ?_|refine zT rfl rfl rfl ?_|refine zU rfl rfl rfl ?_|refine zV rfl rfl rfl ?_|refine zf rfl ?_|refine zt rfl ?_)
    refine o_buildSlice [I m] rfl (by simp [Value.oneCell']) rfl (by decide) (by decide) rfl rfl rfl rfl rfl ?_
    intro b3 w3 hb3 hu3
    have k3 : Kp [] w2 w3 := hu3.kp [] (.inr (by omega))
    refine o_append1K rfl rfl (ho2.kp k3 (by simp)) hu3.blk rfl rfl rfl rfl (by simp only [maxLen]; omega) (by omega) rfl rfl ?_
    intro ad4 cap4 w4 ho4 k4 hnew4 hor4
    (repeat first|refine zA ?_|refine zB ?_|refine zC ?_|refine zD ?_|refine zE ?_|refine zg ?_|refine zo rfl rfl (by first|exact trivial|(simp only[AllP];omega)|(simp(discharger:=omega)only[AllP,cA,cB];omega)|(simp only[AllP,cC,cD,cE,cF,cG];omega)) ?_|refine zn ?_|refine zb ?_|refine ze rfl ?_|refine zr ?_|refine zk ?_|refine zT rfl rfl rfl ?_|refine zU rfl rfl rfl ?_|refine zV rfl rfl rfl ?_|refine zf rfl ?_|refine zt rfl ?_)
    have hsz := hk2.size
    have hsz3 := k3.size
    have e1 : List.replicate (i + k) (I m) ++ [I m] = List.replicate (i + (k + 1)) (I m) := by rw [← Nat.add_assoc, ← List.replicate_succ']
    rw [e1] at ho4
    have k4' : Kp (blkOf a) w w4 := by
      refine (hk2.trans (k3.mono (by simp))).after k4 fun b hb => ?_
      rcases hal with e | hal
      · rw [e] at hb; exact .inl hb
      · exact .inr (hal b hb)
    refine ⟨(k + 1, ad4, cap4), rfl, ⟨ho4, ?_, k4', ?_, by dsimp only; omega⟩, by dsimp only; omega⟩
    · have hrd3 := hrd2.kp k3 (by simp)
      rcases hor4 with rfl | ⟨hk, hf⟩
      · rcases hal with rfl | hal
        · have := ho4.read.take i
          rwa [List.take_replicate, Nat.min_eq_left (by omega)] at this
        · exact hrd3.kp k4 fun b hb hb2 => by have := hlt b hb; have := hal b hb2; omega
      · exact hrd3.kp hk (by simp)
    · dsimp only
      rcases hor4 with rfl | ⟨hk, hf⟩
      · exact hal
      · exact .inr fun b hb => by have := hf b hb; omega
  have hk7 : k = 70 := by omega
  subst hk7
  have hsz := hk2.size
  have hP : PX w0 w2 W sl g := hg.frame hk2 (fun b hb => (haw b hb).2) (fun b hb => (haw b hb).1)
  have hFa : ∀ b, b ∈ blkOf ad2 ++ blkOf a → b < w2.heap.size ∧ ∀ j, b ∉ DD sl W g.ad g.Cst j := fun b hb => by
    rcases List.mem_append.1 hb with hb | hb
    · refine ⟨ho2.lt b hb, ?_⟩
      rcases hal with e | hal
      · rw [e] at hb; exact (haw b hb).2
      · exact hg.pi.away (hal b hb)
    · exact ⟨by have := hlt b hb; omega, (haw b hb).2⟩
  have s1 : ScOk w2 ((blkOf ad2 ++ blkOf a) ++ g.Cst) ⟨a, i, c⟩ (I m) := ⟨hrd2, fun b hb => List.mem_append_left _ (List.mem_append_right _ hb), by dsimp only; omega⟩
  have s2 : ScOk w2 ((blkOf ad2 ++ blkOf a) ++ g.Cst) ⟨ad2, i + 70, cap2⟩ (I m) := ⟨ho2.read, fun b hb => List.mem_append_left _ (List.mem_append_left _ hb), by dsimp only; omega⟩
  have hS : St w0 w W sl g a ((blkOf ad2 ++ blkOf a) ++ g.Cst) (fun j => if j = 0 then .slice a i c else if j = 1 then .slice ad2 (i + 70) cap2 else if j = 2 then .slice none 0 0 else if j = 3 then .slice none 0 0 else I m) ⟨⟨a, i, c⟩, ⟨ad2, i + 70, cap2⟩, Sc.none, Sc.none, m⟩ 0 w2 g.ad g.cp g.row :=
    ⟨hP.pi.keep hFa, hP.pc.kp (Kp.refl [] _) (by simp) (fun b hb => List.mem_append_right _ hb), ⟨s1, s2, ScOk.nil, ScOk.nil⟩, fun j => rfl, fun j b _ hb => .inl hb, fun b h1 h2 _ => hk2.at_ b h1 h2, hk2.size⟩
  obtain ⟨fA0, fC0, fR0, hS0⟩ : ∃ ad cp row, St w0 w W sl g a ((blkOf ad2 ++ blkOf a) ++ g.Cst) (fun j => if j = 0 then .slice a i c else if j = 1 then .slice ad2 (i + 70) cap2 else if j = 2 then .slice none 0 0 else if j = 3 then .slice none 0 0 else I m) ⟨⟨a, i, c⟩, ⟨ad2, i + 70, cap2⟩, Sc.none, Sc.none, m⟩ 0 w2 ad cp row := ⟨_, _, _, hS⟩
  (repeat first|refine zA ?_|refine zB ?_|refine zC ?_|refine zD ?_|refine zE ?_|refine zg ?_|refine zo rfl rfl (by first|exact trivial|(simp only[AllP];omega)|(simp(discharger:=omega)only[AllP,cA,cB];omega)|(simp only[AllP,cC,cD,cE,cF,cG];omega)) ?_|refine zn ?_|refine zb ?_|refine ze rfl ?_|refine zr ?_|refine zk ?_|refine zT rfl rfl rfl ?_|refine zU rfl rfl rfl ?_|refine zV rfl rfl rfl ?_|refine zf rfl ?_|refine zt rfl ?_)
  refine o_load (v := .slice (fA0 0) (fR0 0).length (fC0 0)) rfl hS0.pi.hdr rfl rfl rfl rfl rfl ?_
  (repeat first|refine zA ?_|refine zB ?_|refine zC ?_|refine zD ?_|refine zE ?_|refine zg ?_|refine zo rfl rfl (by first|exact trivial|(simp only[AllP];omega)|(simp(discharger:=omega)only[AllP,cA,cB];omega)|(simp only[AllP,cC,cD,cE,cF,cG];omega)) ?_|refine zn ?_|refine zb ?_|refine ze rfl ?_|refine zr ?_|refine zk ?_|refine zT rfl rfl rfl ?_|refine zU rfl rfl rfl ?_|refine zV rfl rfl rfl ?_|refine zf rfl ?_|refine zt rfl ?_)
  refine o_buildSlice [.slice a i c] rfl (by simp [Value.oneCell']) rfl (by decide) (by decide) rfl rfl rfl rfl rfl ?_
  intro bx0 wa0 hbx0 hua0
  have ka0 := hua0.kp [] (.inr (by omega))
  have hR0 := hS0.len hg.rows (by omega)
  have hO0 := (hS0.pi.own 0 (by omega)).kp ka0 (by simp)
  refine o_append1 (T := 22) rfl rfl hO0 hua0.blk rfl rfl rfl rfl (by simp only [maxLen]; omega) (by omega) rfl rfl ?_
  intro ad0' cap0' wb0 hb0 kb0 hnew0
  have hW0 := kb0.blk (fun hb => (hS0.pi.W_away (i := 0 + 4) (by omega) (by rw [dd_ad (by omega)]; exact hb)) rfl) (hS0.pi.kp0 ka0).hdr
  (repeat first|refine zA ?_|refine zB ?_|refine zC ?_|refine zD ?_|refine zE ?_|refine zg ?_|refine zo rfl rfl (by first|exact trivial|(simp only[AllP];omega)|(simp(discharger:=omega)only[AllP,cA,cB];omega)|(simp only[AllP,cC,cD,cE,cF,cG];omega)) ?_|refine zn ?_|refine zb ?_|refine ze rfl ?_|refine zr ?_|refine zk ?_|refine zT rfl rfl rfl ?_|refine zU rfl rfl rfl ?_|refine zV rfl rfl rfl ?_|refine zf rfl ?_|refine zt rfl ?_)
  refine o_store rfl hW0 (by rw [rowL_len]; decide) rfl rfl rfl rfl rfl rfl ?_
  intro wc0 hs0
  obtain ⟨fA1, fC1, fR1, hS1⟩ := hS0.push (k := 0) (k' := 1) (by omega) rfl rfl ka0 hb0 kb0 hnew0 hs0
  (repeat first|refine zA ?_|refine zB ?_|refine zC ?_|refine zD ?_|refine zE ?_|refine zg ?_|refine zo rfl rfl (by first|exact trivial|(simp only[AllP];omega)|(simp(discharger:=omega)only[AllP,cA,cB];omega)|(simp only[AllP,cC,cD,cE,cF,cG];omega)) ?_|refine zn ?_|refine zb ?_|refine ze rfl ?_|refine zr ?_|refine zk ?_|refine zT rfl rfl rfl ?_|refine zU rfl rfl rfl ?_|refine zV rfl rfl rfl ?_|refine zf rfl ?_|refine zt rfl ?_)
  refine o_load (v := .slice (fA1 1) (fR1 1).length (fC1 1)) rfl hS1.pi.hdr rfl rfl rfl rfl rfl ?_
  (repeat first|refine zA ?_|refine zB ?_|refine zC ?_|refine zD ?_|refine zE ?_|refine zg ?_|refine zo rfl rfl (by first|exact trivial|(simp only[AllP];omega)|(simp(discharger:=omega)only[AllP,cA,cB];omega)|(simp only[AllP,cC,cD,cE,cF,cG];omega)) ?_|refine zn ?_|refine zb ?_|refine ze rfl ?_|refine zr ?_|refine zk ?_|refine zT rfl rfl rfl ?_|refine zU rfl rfl rfl ?_|refine zV rfl rfl rfl ?_|refine zf rfl ?_|refine zt rfl ?_)
  refine o_buildSlice [.slice ad2 (i + 70) cap2] rfl (by simp [Value.oneCell']) rfl (by decide) (by decide) rfl rfl rfl rfl rfl ?_
  intro bx1 wa1 hbx1 hua1
  have ka1 := hua1.kp [] (.inr (by omega))
  have hR1 := hS1.len hg.rows (by omega)
  have hO1 := (hS1.pi.own 1 (by omega)).kp ka1 (by simp)
  refine o_append1 (T := 22) rfl rfl hO1 hua1.blk rfl rfl rfl rfl (by simp only [maxLen]; omega) (by omega) rfl rfl ?_
  intro ad1' cap1' wb1 hb1 kb1 hnew1
  have hW1 := kb1.blk (fun hb => (hS1.pi.W_away (i := 1 + 4) (by omega) (by rw [dd_ad (by omega)]; exact hb)) rfl) (hS1.pi.kp0 ka1).hdr
  (repeat first|refine zA ?_|refine zB ?_|refine zC ?_|refine zD ?_|refine zE ?_|refine zg ?_|refine zo rfl rfl (by first|exact trivial|(simp only[AllP];omega)|(simp(discharger:=omega)only[AllP,cA,cB];omega)|(simp only[AllP,cC,cD,cE,cF,cG];omega)) ?_|refine zn ?_|refine zb ?_|refine ze rfl ?_|refine zr ?_|refine zk ?_|refine zT rfl rfl rfl ?_|refine zU rfl rfl rfl ?_|refine zV rfl rfl rfl ?_|refine zf rfl ?_|refine zt rfl ?_)
  refine o_store rfl hW1 (by rw [rowL_len]; decide) rfl rfl rfl rfl rfl rfl ?_
  intro wc1 hs1
  obtain ⟨fA2, fC2, fR2, hS2⟩ := hS1.push (k := 1) (k' := 2) (by omega) rfl rfl ka1 hb1 kb1 hnew1 hs1
  (repeat first|refine zA ?_|refine zB ?_|refine zC ?_|refine zD ?_|refine zE ?_|refine zg ?_|refine zo rfl rfl (by first|exact trivial|(simp only[AllP];omega)|(simp(discharger:=omega)only[AllP,cA,cB];omega)|(simp only[AllP,cC,cD,cE,cF,cG];omega)) ?_|refine zn ?_|refine zb ?_|refine ze rfl ?_|refine zr ?_|refine zk ?_|refine zT rfl rfl rfl ?_|refine zU rfl rfl rfl ?_|refine zV rfl rfl rfl ?_|refine zf rfl ?_|refine zt rfl ?_)
  refine o_load (v := .slice (fA2 2) (fR2 2).length (fC2 2)) rfl hS2.pi.hdr rfl rfl rfl rfl rfl ?_
  (repeat first|refine zA ?_|refine zB ?_|refine zC ?_|refine zD ?_|refine zE ?_|refine zg ?_|refine zo rfl rfl (by first|exact trivial|(simp only[AllP];omega)|(simp(discharger:=omega)only[AllP,cA,cB];omega)|(simp only[AllP,cC,cD,cE,cF,cG];omega)) ?_|refine zn ?_|refine zb ?_|refine ze rfl ?_|refine zr ?_|refine zk ?_|refine zT rfl rfl rfl ?_|refine zU rfl rfl rfl ?_|refine zV rfl rfl rfl ?_|refine zf rfl ?_|refine zt rfl ?_)
  refine o_buildSlice [.slice none 0 0] rfl (by simp [Value.oneCell']) rfl (by decide) (by decide) rfl rfl rfl rfl rfl ?_
  intro bx2 wa2 hbx2 hua2
  have ka2 := hua2.kp [] (.inr (by omega))
  have hR2 := hS2.len hg.rows (by omega)
  have hO2 := (hS2.pi.own 2 (by omega)).kp ka2 (by simp)
  refine o_append1 (T := 40) rfl rfl hO2 hua2.blk rfl rfl rfl rfl (by simp only [maxLen]; omega) (by omega) rfl rfl ?_
  intro ad2' cap2' wb2 hb2 kb2 hnew2
  have hW2 := kb2.blk (fun hb => (hS2.pi.W_away (i := 2 + 4) (by omega) (by rw [dd_ad (by omega)]; exact hb)) rfl) (hS2.pi.kp0 ka2).hdr
  (repeat first|refine zA ?_|refine zB ?_|refine zC ?_|refine zD ?_|refine zE ?_|refine zg ?_|refine zo rfl rfl (by first|exact trivial|(simp only[AllP];omega)|(simp(discharger:=omega)only[AllP,cA,cB];omega)|(simp only[AllP,cC,cD,cE,cF,cG];omega)) ?_|refine zn ?_|refine zb ?_|refine ze rfl ?_|refine zr ?_|refine zk ?_|refine zT rfl rfl rfl ?_|refine zU rfl rfl rfl ?_|refine zV rfl rfl rfl ?_|refine zf rfl ?_|refine zt rfl ?_)
  refine o_store rfl hW2 (by rw [rowL_len]; decide) rfl rfl rfl rfl rfl rfl ?_
  intro wc2 hs2
  obtain ⟨fA3, fC3, fR3, hS3⟩ := hS2.push (k := 2) (k' := 3) (by omega) rfl rfl ka2 hb2 kb2 hnew2 hs2
  (repeat first|refine zA ?_|refine zB ?_|refine zC ?_|refine zD ?_|refine zE ?_|refine zg ?_|refine zo rfl rfl (by first|exact trivial|(simp only[AllP];omega)|(simp(discharger:=omega)only[AllP,cA,cB];omega)|(simp only[AllP,cC,cD,cE,cF,cG];omega)) ?_|refine zn ?_|refine zb ?_|refine ze rfl ?_|refine zr ?_|refine zk ?_|refine zT rfl rfl rfl ?_|refine zU rfl rfl rfl ?_|refine zV rfl rfl rfl ?_|refine zf rfl ?_|refine zt rfl ?_)
  refine o_load (v := .slice (fA3 3) (fR3 3).length (fC3 3)) rfl hS3.pi.hdr rfl rfl rfl rfl rfl ?_
  (repeat first|refine zA ?_|refine zB ?_|refine zC ?_|refine zD ?_|refine zE ?_|refine zg ?_|refine zo rfl rfl (by first|exact trivial|(simp only[AllP];omega)|(simp(discharger:=omega)only[AllP,cA,cB];omega)|(simp only[AllP,cC,cD,cE,cF,cG];omega)) ?_|refine zn ?_|refine zb ?_|refine ze rfl ?_|refine zr ?_|refine zk ?_|refine zT rfl rfl rfl ?_|refine zU rfl rfl rfl ?_|refine zV rfl rfl rfl ?_|refine zf rfl ?_|refine zt rfl ?_)
  refine o_buildSlice [.slice none 0 0] rfl (by simp [Value.oneCell']) rfl (by decide) (by decide) rfl rfl rfl rfl rfl ?_
  intro bx3 wa3 hbx3 hua3
  have ka3 := hua3.kp [] (.inr (by omega))
  have hR3 := hS3.len hg.rows (by omega)
  have hO3 := (hS3.pi.own 3 (by omega)).kp ka3 (by simp)
  refine o_append1 (T := 40) rfl rfl hO3 hua3.blk rfl rfl rfl rfl (by simp only [maxLen]; omega) (by omega) rfl rfl ?_
  intro ad3' cap3' wb3 hb3 kb3 hnew3
  have hW3 := kb3.blk (fun hb => (hS3.pi.W_away (i := 3 + 4) (by omega) (by rw [dd_ad (by omega)]; exact hb)) rfl) (hS3.pi.kp0 ka3).hdr
  (repeat first|refine zA ?_|refine zB ?_|refine zC ?_|refine zD ?_|refine zE ?_|refine zg ?_|refine zo rfl rfl (by first|exact trivial|(simp only[AllP];omega)|(simp(discharger:=omega)only[AllP,cA,cB];omega)|(simp only[AllP,cC,cD,cE,cF,cG];omega)) ?_|refine zn ?_|refine zb ?_|refine ze rfl ?_|refine zr ?_|refine zk ?_|refine zT rfl rfl rfl ?_|refine zU rfl rfl rfl ?_|refine zV rfl rfl rfl ?_|refine zf rfl ?_|refine zt rfl ?_)
  refine o_store rfl hW3 (by rw [rowL_len]; decide) rfl rfl rfl rfl rfl rfl ?_
  intro wc3 hs3
  obtain ⟨fA4, fC4, fR4, hS4⟩ := hS3.push (k := 3) (k' := 4) (by omega) rfl rfl ka3 hb3 kb3 hnew3 hs3
  (repeat first|refine zA ?_|refine zB ?_|refine zC ?_|refine zD ?_|refine zE ?_|refine zg ?_|refine zo rfl rfl (by first|exact trivial|(simp only[AllP];omega)|(simp(discharger:=omega)only[AllP,cA,cB];omega)|(simp only[AllP,cC,cD,cE,cF,cG];omega)) ?_|refine zn ?_|refine zb ?_|refine ze rfl ?_|refine zr ?_|refine zk ?_|refine zT rfl rfl rfl ?_|refine zU rfl rfl rfl ?_|refine zV rfl rfl rfl ?_|refine zf rfl ?_|refine zt rfl ?_)
  refine o_load (v := .slice (fA4 4) (fR4 4).length (fC4 4)) rfl hS4.pi.hdr rfl rfl rfl rfl rfl ?_
  (repeat first|refine zA ?_|refine zB ?_|refine zC ?_|refine zD ?_|refine zE ?_|refine zg ?_|refine zo rfl rfl (by first|exact trivial|(simp only[AllP];omega)|(simp(discharger:=omega)only[AllP,cA,cB];omega)|(simp only[AllP,cC,cD,cE,cF,cG];omega)) ?_|refine zn ?_|refine zb ?_|refine ze rfl ?_|refine zr ?_|refine zk ?_|refine zT rfl rfl rfl ?_|refine zU rfl rfl rfl ?_|refine zV rfl rfl rfl ?_|refine zf rfl ?_|refine zt rfl ?_)
  refine o_buildSlice [I m] rfl (by simp [Value.oneCell']) rfl (by decide) (by decide) rfl rfl rfl rfl rfl ?_
  intro bx4 wa4 hbx4 hua4
  have ka4 := hua4.kp [] (.inr (by omega))
  have hR4 := hS4.len hg.rows (by omega)
  have hO4 := (hS4.pi.own 4 (by omega)).kp ka4 (by simp)
  refine o_append1 (T := 3) rfl rfl hO4 hua4.blk rfl rfl rfl rfl (by simp only [maxLen]; omega) (by omega) rfl rfl ?_
  intro ad4' cap4' wb4 hb4 kb4 hnew4
  have hW4 := kb4.blk (fun hb => (hS4.pi.W_away (i := 4 + 4) (by omega) (by rw [dd_ad (by omega)]; exact hb)) rfl) (hS4.pi.kp0 ka4).hdr
  (repeat first|refine zA ?_|refine zB ?_|refine zC ?_|refine zD ?_|refine zE ?_|refine zg ?_|refine zo rfl rfl (by first|exact trivial|(simp only[AllP];omega)|(simp(discharger:=omega)only[AllP,cA,cB];omega)|(simp only[AllP,cC,cD,cE,cF,cG];omega)) ?_|refine zn ?_|refine zb ?_|refine ze rfl ?_|refine zr ?_|refine zk ?_|refine zT rfl rfl rfl ?_|refine zU rfl rfl rfl ?_|refine zV rfl rfl rfl ?_|refine zf rfl ?_|refine zt rfl ?_)
  refine o_store rfl hW4 (by rw [rowL_len]; decide) rfl rfl rfl rfl rfl rfl ?_
  intro wc4 hs4
  obtain ⟨fA5, fC5, fR5, hS5⟩ := hS4.push (k := 4) (k' := 5) (by omega) rfl rfl ka4 hb4 kb4 hnew4 hs4
  (repeat first|refine zA ?_|refine zB ?_|refine zC ?_|refine zD ?_|refine zE ?_|refine zg ?_|refine zo rfl rfl (by first|exact trivial|(simp only[AllP];omega)|(simp(discharger:=omega)only[AllP,cA,cB];omega)|(simp only[AllP,cC,cD,cE,cF,cG];omega)) ?_|refine zn ?_|refine zb ?_|refine ze rfl ?_|refine zr ?_|refine zk ?_|refine zT rfl rfl rfl ?_|refine zU rfl rfl rfl ?_|refine zV rfl rfl rfl ?_|refine zf rfl ?_|refine zt rfl ?_)
  refine ⟨_, rfl, rfl, hS5.done hg.rows (fun b hb => ?_) rfl rfl rfl rfl rfl⟩
  rcases List.mem_append.1 hb with hb | hb
  · rcases hal with e | hal
    · rw [e] at hb; exact .inl hb
    · exact .inr (hal b hb)
  · exact .inl hb
set_option maxHeartbeats 3200000 in
theorem bits_ret (hg : PX w0 w W sl g) {a : Option Addr} {n c : Nat} {xs : List Value} (hl : OwnS w 41 1 a n c xs) (haw : ∀ b, b ∈ blkOf a → w0.heap.size ≤ b ∧ ∀ i, b ∉ DD sl W g.ad g.Cst i) (hn : n ≤ 1073741824) (hcnt : g.ents.length ≤ 1073741824) :
    Ret Tryd.prog 90 [.pointer (some ⟨W, 8, none⟩), .slice a n c] w (fun v w' => v = .tuple #[] ∧ ∃ g', PX w0 w' W sl g' ∧ g'.ents.length = g.ents.length + 1 ∧ g'.sqs = g.sqs ∧ (∀ b, b < w.heap.size → b ∉ blkOf a → (∀ i, b ∉ DD sl W g.ad g.Cst i) → w'.heap[b]? = w.heap[b]? ∧ ∀ i, b ∉ DD sl W g'.ad g'.Cst i)) := by
  have hr4 : (g.row 4).length = g.ents.length := (congrArg List.length hg.rows.r4).trans (List.length_map _)
  refine enter Tryd.call90 Tryd.func90 rfl rfl rfl rfl ?_
  (repeat first|refine zA ?_|refine zB ?_|refine zC ?_|refine zD ?_|refine zE ?_|refine zg ?_|refine zo rfl rfl (by first|exact trivial|(simp only[AllP];omega)|(simp(discharger:=omega)only[AllP,cA,cB];omega)|(simp only[AllP,cC,cD,cE,cF,cG];omega)) ?_|refine zn ?_|refine zb ?_|refine ze rfl ?_|refine zr ?_|refine zk ?_|refine zT rfl rfl rfl ?_|refine zU rfl rfl rfl ?_|refine zV rfl rfl rfl ?_|refine zf rfl ?_|refine zt rfl ?_)
  refine o_load (v := .slice (g.ad 4) (g.row 4).length (g.cp 4)) rfl hg.pi.hdr rfl rfl rfl rfl rfl ?_
  (repeat first|refine zA ?_|refine zB ?_|refine zC ?_|refine zD ?_|refine zE ?_|refine zg ?_|refine zo rfl rfl (by first|exact trivial|(simp only[AllP];omega)|(simp(discharger:=omega)only[AllP,cA,cB];omega)|(simp only[AllP,cC,cD,cE,cF,cG];omega)) ?_|refine zn ?_|refine zb ?_|refine ze rfl ?_|refine zr ?_|refine zk ?_|refine zT rfl rfl rfl ?_|refine zU rfl rfl rfl ?_|refine zV rfl rfl rfl ?_|refine zf rfl ?_|refine zt rfl ?_)
  rw [hr4]
  obtain ⟨m, hm⟩ : ∃ m : Int, m = -2 - (g.ents.length : Int) := ⟨_, rfl⟩
  refine r_loop (α := Nat × List Value) [0, 1, 4, 5] (fun x => [.pointer (some ⟨W, 8, none⟩), .slice a n c, I m, I x.1]) (fun x w1 => OwnS w1 41 1 a n c x.2 ∧ Kp (blkOf a) w w1 ∧ x.1 ≤ n ∧ ∀ j, j < x.1 → x.2[j]? = some (mk64 m)) (fun x => n - x.1) (0, xs) (by rw [hm]; rfl) ⟨hl, Kp.refl _ _, by omega, fun j hj => by dsimp only at hj; omega⟩ ?_
  rintro ⟨i, ys⟩ e w1 ⟨ho, hk1, hi, hall⟩
  dsimp only at ho hi hall ⊢
  (repeat first|refine zA ?_|refine zB ?_|refine zC ?_|refine zD ?_|refine zE ?_|refine zg ?_|refine zo rfl rfl (by first|exact trivial|(simp only[AllP];omega)|(simp(discharger:=omega)only[AllP,cA,cB];omega)|(simp only[AllP,cC,cD,cE,cF,cG];omega)) ?_|refine zn ?_|refine zb ?_|refine ze rfl ?_|refine zr ?_|refine zk ?_|refine zT rfl rfl rfl ?_|refine zU rfl rfl rfl ?_|refine zV rfl rfl rfl ?_|refine zf rfl ?_|refine zt rfl ?_)
  refine r_if rfl (fun hc => ?_) (fun hc => ?_)
  · obtain ⟨b, L, hae, hb, hbl, hset⟩ := ho.wr (i := i) (by omega)
    rw [hae]
    (repeat first|refine zA ?_|refine zB ?_|refine zC ?_|refine zD ?_|refine zE ?_|refine zg ?_|refine zo rfl rfl (by first|exact trivial|(simp only[AllP];omega)|(simp(discharger:=omega)only[AllP,cA,cB];omega)|(simp only[AllP,cC,cD,cE,cF,cG];omega)) ?_|refine zn ?_|refine zb ?_|refine ze rfl ?_|refine zr ?_|refine zk ?_|refine zT rfl rfl rfl ?_|refine zU rfl rfl rfl ?_|refine zV rfl rfl rfl ?_|refine zf rfl ?_|refine zt rfl ?_)
    refine o_store (b := b) (off := i) (v := mk64 m) (c := none) ?_ hb hbl rfl rfl rfl rfl rfl rfl ?_
    · show Value.pointer (some ⟨b, 0 + i, none⟩) = _
      rw [Nat.zero_add]
    intro w2 hu2
    (repeat first|refine zA ?_|refine zB ?_|refine zC ?_|refine zD ?_|refine zE ?_|refine zg ?_|refine zo rfl rfl (by first|exact trivial|(simp only[AllP];omega)|(simp(discharger:=omega)only[AllP,cA,cB];omega)|(simp only[AllP,cC,cD,cE,cF,cG];omega)) ?_|refine zn ?_|refine zb ?_|refine ze rfl ?_|refine zr ?_|refine zk ?_|refine zT rfl rfl rfl ?_|refine zU rfl rfl rfl ?_|refine zV rfl rfl rfl ?_|refine zf rfl ?_|refine zt rfl ?_)
    have ho2 := hset _ w2 hu2
    refine ⟨(i + 1, ys.set i (mk64 m)), rfl, ⟨by rw [← hae]; exact ho2, ?_, by dsimp only; omega, fun j hj => ?_⟩, by dsimp only; omega⟩
    · rw [← hae]; exact hk1.trans (hu2.kp _ (.inl (by rw [hae]; simp [blkOf])))
    · dsimp only at hj ⊢
      rw [List.getElem?_set]
      have hly := ho.1
      by_cases hij : i = j
      · rw [if_pos hij, if_pos (by omega)]
      · rw [if_neg hij]; exact hall j (by omega)
  have hin : i = n := by omega
  subst hin
  have hys : ys = List.replicate i (mk64 m) := by
    have hly := ho.1
    apply List.ext_getElem?
    intro j
    rw [List.getElem?_replicate]
    by_cases hj : j < i
    · rw [if_pos hj]; exact hall j hj
    · rw [if_neg hj, List.getElem?_eq_none (by omega)]
  subst hys
  (repeat first|refine zA ?_|refine zB ?_|refine zC ?_|refine zD ?_|refine zE ?_|refine zg ?_|refine zo rfl rfl (by first|exact trivial|(simp only[AllP];omega)|(simp(discharger:=omega)only[AllP,cA,cB];omega)|(simp only[AllP,cC,cD,cE,cF,cG];omega)) ?_|refine zn ?_|refine zb ?_|refine ze rfl ?_|refine zr ?_|refine zk ?_|refine zT rfl rfl rfl ?_|refine zU rfl rfl rfl ?_|refine zV rfl rfl rfl ?_|refine zf rfl ?_|refine zt rfl ?_)
  have hlt : ∀ b, b ∈ blkOf a → b < w.heap.size := hl.lt
  refine r_loop (α := Nat × Option Addr × Nat) [0, 1, 4, 6, 7] (fun x => [.pointer (some ⟨W, 8, none⟩), .slice a i c, I m, .slice x.2.1 (i + x.1) x.2.2, I x.1]) (fun x w1 => OwnS w1 41 1 x.2.1 (i + x.1) x.2.2 (List.replicate (i + x.1) (mk64 m)) ∧ ReadS w1 a (List.replicate i (mk64 m)) ∧ Kp (blkOf a) w w1 ∧ (x.2.1 = a ∨ ∀ b, b ∈ blkOf x.2.1 → w.heap.size ≤ b) ∧ x.1 ≤ 70) (fun x => 70 - x.1) (0, a, c) rfl ⟨ho, ho.read, hk1, .inl rfl, by omega⟩ ?_
  rintro ⟨k, ad2, cap2⟩ e w2 ⟨ho2, hrd2, hk2, hal, hk70⟩
  dsimp only at ho2 hal hk70 ⊢
  (repeat first|refine zA ?_|refine zB ?_|refine zC ?_|refine zD ?_|refine zE ?_|refine zg ?_|refine zo rfl rfl (by first|exact trivial|(simp only[AllP];omega)|(simp(discharger:=omega)only[AllP,cA,cB];omega)|(simp only[AllP,cC,cD,cE,cF,cG];omega)) ?_|refine zn ?_|refine zb ?_|refine ze rfl ?_|refine zr ?_|refine zk ?_|refine zT rfl rfl rfl ?_|refine zU rfl rfl rfl ?_|refine zV rfl rfl rfl ?_|refine zf rfl ?_|refine zt rfl ?_)
  refine r_if rfl (fun hc2 => ?_) (fun hc2 => ?_)
  · (repeat first|refine zA ?_|refine zB ?_|refine zC ?_|refine zD ?_|refine zE ?_|refine zg ?_|refine zo rfl rfl (by first|exact trivial|(simp only[AllP];omega)|(simp(discharger:=omega)only[AllP,cA,cB];omega)|(simp only[AllP,cC,cD,cE,cF,cG];omega)) ?_|refine zn ?_|refine zb ?_|refine ze rfl ?_|refine zr ?_|refine zk ?_|refine zT rfl rfl rfl ?_|refine zU rfl rfl rfl ?_|refine zV rfl rfl rfl ?_|refine zf rfl ?_|refine zt rfl ?_)
    refine o_buildSlice [mk64 m] rfl (by simp [Value.oneCell', mk64]) rfl (by decide) (by decide) rfl rfl rfl rfl rfl ?_
    intro b3 w3 hb3 hu3
    have k3 : Kp [] w2 w3 := hu3.kp [] (.inr (by omega))
    refine o_append1K rfl rfl (ho2.kp k3 (by simp)) hu3.blk rfl rfl rfl rfl (by simp only [maxLen]; omega) (by omega) rfl rfl ?_
    intro ad4 cap4 w4 ho4 k4 hnew4 hor4
    (repeat first|refine zA ?_|refine zB ?_|refine zC ?_|refine zD ?_|refine zE ?_|refine zg ?_|refine zo rfl rfl (by first|exact trivial|(simp only[AllP];omega)|(simp(discharger:=omega)only[AllP,cA,cB];omega)|(simp only[AllP,cC,cD,cE,cF,cG];omega)) ?_|refine zn ?_|refine zb ?_|refine ze rfl ?_|refine zr ?_|refine zk ?_|refine zT rfl rfl rfl ?_|refine zU rfl rfl rfl ?_|refine zV rfl rfl rfl ?_|refine zf rfl ?_|refine zt rfl ?_)
    have hsz := hk2.size
    have hsz3 := k3.size
    have e1 : List.replicate (i + k) (mk64 m) ++ [mk64 m] = List.replicate (i + (k + 1)) (mk64 m) := by rw [← Nat.add_assoc, ← List.replicate_succ']
    rw [e1] at ho4
    have k4' : Kp (blkOf a) w w4 := by
      refine (hk2.trans (k3.mono (by simp))).after k4 fun b hb => ?_
      rcases hal with e | hal
      · rw [e] at hb; exact .inl hb
      · exact .inr (hal b hb)
    refine ⟨(k + 1, ad4, cap4), rfl, ⟨ho4, ?_, k4', ?_, by dsimp only; omega⟩, by dsimp only; omega⟩
    · have hrd3 := hrd2.kp k3 (by simp)
      rcases hor4 with rfl | ⟨hk, hf⟩
      · rcases hal with rfl | hal
        · have := ho4.read.take i
          rwa [List.take_replicate, Nat.min_eq_left (by omega)] at this
        · exact hrd3.kp k4 fun b hb hb2 => by have := hlt b hb; have := hal b hb2; omega
      · exact hrd3.kp hk (by simp)
    · dsimp only
      rcases hor4 with rfl | ⟨hk, hf⟩
      · exact hal
      · exact .inr fun b hb => by have := hf b hb; omega
  have hk7 : k = 70 := by omega
  subst hk7
  have hsz := hk2.size
  have hP : PX w0 w2 W sl g := hg.frame hk2 (fun b hb => (haw b hb).2) (fun b hb => (haw b hb).1)
  have hFa : ∀ b, b ∈ blkOf ad2 ++ blkOf a → b < w2.heap.size ∧ ∀ j, b ∉ DD sl W g.ad g.Cst j := fun b hb => by
    rcases List.mem_append.1 hb with hb | hb
    · refine ⟨ho2.lt b hb, ?_⟩
      rcases hal with e | hal
      · rw [e] at hb; exact (haw b hb).2
      · exact hg.pi.away (hal b hb)
    · exact ⟨by have := hlt b hb; omega, (haw b hb).2⟩
  have s1 : ScOk w2 ((blkOf ad2 ++ blkOf a) ++ g.Cst) ⟨a, i, c⟩ (mk64 m) := ⟨hrd2, fun b hb => List.mem_append_left _ (List.mem_append_right _ hb), by dsimp only; omega⟩
  have s2 : ScOk w2 ((blkOf ad2 ++ blkOf a) ++ g.Cst) ⟨ad2, i + 70, cap2⟩ (mk64 m) := ⟨ho2.read, fun b hb => List.mem_append_left _ (List.mem_append_left _ hb), by dsimp only; omega⟩
  have hS : St w0 w W sl g a ((blkOf ad2 ++ blkOf a) ++ g.Cst) (fun j => if j = 0 then .slice none 0 0 else if j = 1 then .slice none 0 0 else if j = 2 then .slice a i c else if j = 3 then .slice ad2 (i + 70) cap2 else I m) ⟨Sc.none, Sc.none, ⟨a, i, c⟩, ⟨ad2, i + 70, cap2⟩, m⟩ 0 w2 g.ad g.cp g.row :=
    ⟨hP.pi.keep hFa, hP.pc.kp (Kp.refl [] _) (by simp) (fun b hb => List.mem_append_right _ hb), ⟨ScOk.nil, ScOk.nil, s1, s2⟩, fun j => rfl, fun j b _ hb => .inl hb, fun b h1 h2 _ => hk2.at_ b h1 h2, hk2.size⟩
  obtain ⟨fA0, fC0, fR0, hS0⟩ : ∃ ad cp row, St w0 w W sl g a ((blkOf ad2 ++ blkOf a) ++ g.Cst) (fun j => if j = 0 then .slice none 0 0 else if j = 1 then .slice none 0 0 else if j = 2 then .slice a i c else if j = 3 then .slice ad2 (i + 70) cap2 else I m) ⟨Sc.none, Sc.none, ⟨a, i, c⟩, ⟨ad2, i + 70, cap2⟩, m⟩ 0 w2 ad cp row := ⟨_, _, _, hS⟩
  (repeat first|refine zA ?_|refine zB ?_|refine zC ?_|refine zD ?_|refine zE ?_|refine zg ?_|refine zo rfl rfl (by first|exact trivial|(simp only[AllP];omega)|(simp(discharger:=omega)only[AllP,cA,cB];omega)|(simp only[AllP,cC,cD,cE,cF,cG];omega)) ?_|refine zn ?_|refine zb ?_|refine ze rfl ?_|refine zr ?_|refine zk ?_|refine zT rfl rfl rfl ?_|refine zU rfl rfl rfl ?_|refine zV rfl rfl rfl ?_|refine zf rfl ?_|refine zt rfl ?_)
  refine o_load (v := .slice (fA0 0) (fR0 0).length (fC0 0)) rfl hS0.pi.hdr rfl rfl rfl rfl rfl ?_
  (repeat first|refine zA ?_|refine zB ?_|refine zC ?_|refine zD ?_|refine zE ?_|refine zg ?_|refine zo rfl rfl (by first|exact trivial|(simp only[AllP];omega)|(simp(discharger:=omega)only[AllP,cA,cB];omega)|(simp only[AllP,cC,cD,cE,cF,cG];omega)) ?_|refine zn ?_|refine zb ?_|refine ze rfl ?_|refine zr ?_|refine zk ?_|refine zT rfl rfl rfl ?_|refine zU rfl rfl rfl ?_|refine zV rfl rfl rfl ?_|refine zf rfl ?_|refine zt rfl ?_)
  refine o_buildSlice [.slice none 0 0] rfl (by simp [Value.oneCell']) rfl (by decide) (by decide) rfl rfl rfl rfl rfl ?_
  intro bx0 wa0 hbx0 hua0
  have ka0 := hua0.kp [] (.inr (by omega))
  have hR0 := hS0.len hg.rows (by omega)
  have hO0 := (hS0.pi.own 0 (by omega)).kp ka0 (by simp)
  refine o_append1 (T := 22) rfl rfl hO0 hua0.blk rfl rfl rfl rfl (by simp only [maxLen]; omega) (by omega) rfl rfl ?_
  intro ad0' cap0' wb0 hb0 kb0 hnew0
  have hW0 := kb0.blk (fun hb => (hS0.pi.W_away (i := 0 + 4) (by omega) (by rw [dd_ad (by omega)]; exact hb)) rfl) (hS0.pi.kp0 ka0).hdr
  (repeat first|refine zA ?_|refine zB ?_|refine zC ?_|refine zD ?_|refine zE ?_|refine zg ?_|refine zo rfl rfl (by first|exact trivial|(simp only[AllP];omega)|(simp(discharger:=omega)only[AllP,cA,cB];omega)|(simp only[AllP,cC,cD,cE,cF,cG];omega)) ?_|refine zn ?_|refine zb ?_|refine ze rfl ?_|refine zr ?_|refine zk ?_|refine zT rfl rfl rfl ?_|refine zU rfl rfl rfl ?_|refine zV rfl rfl rfl ?_|refine zf rfl ?_|refine zt rfl ?_)
  refine o_store rfl hW0 (by rw [rowL_len]; decide) rfl rfl rfl rfl rfl rfl ?_
  intro wc0 hs0
  obtain ⟨fA1, fC1, fR1, hS1⟩ := hS0.push (k := 0) (k' := 1) (by omega) rfl rfl ka0 hb0 kb0 hnew0 hs0
  (repeat first|refine zA ?_|refine zB ?_|refine zC ?_|refine zD ?_|refine zE ?_|refine zg ?_|refine zo rfl rfl (by first|exact trivial|(simp only[AllP];omega)|(simp(discharger:=omega)only[AllP,cA,cB];omega)|(simp only[AllP,cC,cD,cE,cF,cG];omega)) ?_|refine zn ?_|refine zb ?_|refine ze rfl ?_|refine zr ?_|refine zk ?_|refine zT rfl rfl rfl ?_|refine zU rfl rfl rfl ?_|refine zV rfl rfl rfl ?_|refine zf rfl ?_|refine zt rfl ?_)
  refine o_load (v := .slice (fA1 1) (fR1 1).length (fC1 1)) rfl hS1.pi.hdr rfl rfl rfl rfl rfl ?_
  (repeat first|refine zA ?_|refine zB ?_|refine zC ?_|refine zD ?_|refine zE ?_|refine zg ?_|refine zo rfl rfl (by first|exact trivial|(simp only[AllP];omega)|(simp(discharger:=omega)only[AllP,cA,cB];omega)|(simp only[AllP,cC,cD,cE,cF,cG];omega)) ?_|refine zn ?_|refine zb ?_|refine ze rfl ?_|refine zr ?_|refine zk ?_|refine zT rfl rfl rfl ?_|refine zU rfl rfl rfl ?_|refine zV rfl rfl rfl ?_|refine zf rfl ?_|refine zt rfl ?_)
  refine o_buildSlice [.slice none 0 0] rfl (by simp [Value.oneCell']) rfl (by decide) (by decide) rfl rfl rfl rfl rfl ?_
  intro bx1 wa1 hbx1 hua1
  have ka1 := hua1.kp [] (.inr (by omega))
  have hR1 := hS1.len hg.rows (by omega)
  have hO1 := (hS1.pi.own 1 (by omega)).kp ka1 (by simp)
  refine o_append1 (T := 22) rfl rfl hO1 hua1.blk rfl rfl rfl rfl (by simp only [maxLen]; omega) (by omega) rfl rfl ?_
  intro ad1' cap1' wb1 hb1 kb1 hnew1
  have hW1 := kb1.blk (fun hb => (hS1.pi.W_away (i := 1 + 4) (by omega) (by rw [dd_ad (by omega)]; exact hb)) rfl) (hS1.pi.kp0 ka1).hdr
  (repeat first|refine zA ?_|refine zB ?_|refine zC ?_|refine zD ?_|refine zE ?_|refine zg ?_|refine zo rfl rfl (by first|exact trivial|(simp only[AllP];omega)|(simp(discharger:=omega)only[AllP,cA,cB];omega)|(simp only[AllP,cC,cD,cE,cF,cG];omega)) ?_|refine zn ?_|refine zb ?_|refine ze rfl ?_|refine zr ?_|refine zk ?_|refine zT rfl rfl rfl ?_|refine zU rfl rfl rfl ?_|refine zV rfl rfl rfl ?_|refine zf rfl ?_|refine zt rfl ?_)
  refine o_store rfl hW1 (by rw [rowL_len]; decide) rfl rfl rfl rfl rfl rfl ?_
  intro wc1 hs1
  obtain ⟨fA2, fC2, fR2, hS2⟩ := hS1.push (k := 1) (k' := 2) (by omega) rfl rfl ka1 hb1 kb1 hnew1 hs1
  (repeat first|refine zA ?_|refine zB ?_|refine zC ?_|refine zD ?_|refine zE ?_|refine zg ?_|refine zo rfl rfl (by first|exact trivial|(simp only[AllP];omega)|(simp(discharger:=omega)only[AllP,cA,cB];omega)|(simp only[AllP,cC,cD,cE,cF,cG];omega)) ?_|refine zn ?_|refine zb ?_|refine ze rfl ?_|refine zr ?_|refine zk ?_|refine zT rfl rfl rfl ?_|refine zU rfl rfl rfl ?_|refine zV rfl rfl rfl ?_|refine zf rfl ?_|refine zt rfl ?_)
  refine o_load (v := .slice (fA2 2) (fR2 2).length (fC2 2)) rfl hS2.pi.hdr rfl rfl rfl rfl rfl ?_
  (repeat first|refine zA ?_|refine zB ?_|refine zC ?_|refine zD ?_|refine zE ?_|refine zg ?_|refine zo rfl rfl (by first|exact trivial|(simp only[AllP];omega)|(simp(discharger:=omega)only[AllP,cA,cB];omega)|(simp only[AllP,cC,cD,cE,cF,cG];omega)) ?_|refine zn ?_|refine zb ?_|refine ze rfl ?_|refine zr ?_|refine zk ?_|refine zT rfl rfl rfl ?_|refine zU rfl rfl rfl ?_|refine zV rfl rfl rfl ?_|refine zf rfl ?_|refine zt rfl ?_)
  refine o_buildSlice [.slice a i c] rfl (by simp [Value.oneCell']) rfl (by decide) (by decide) rfl rfl rfl rfl rfl ?_
  intro bx2 wa2 hbx2 hua2
  have ka2 := hua2.kp [] (.inr (by omega))
  have hR2 := hS2.len hg.rows (by omega)
  have hO2 := (hS2.pi.own 2 (by omega)).kp ka2 (by simp)
  refine o_append1 (T := 40) rfl rfl hO2 hua2.blk rfl rfl rfl rfl (by simp only [maxLen]; omega) (by omega) rfl rfl ?_
  intro ad2' cap2' wb2 hb2 kb2 hnew2
  have hW2 := kb2.blk (fun hb => (hS2.pi.W_away (i := 2 + 4) (by omega) (by rw [dd_ad (by omega)]; exact hb)) rfl) (hS2.pi.kp0 ka2).hdr
  (repeat first|refine zA ?_|refine zB ?_|refine zC ?_|refine zD ?_|refine zE ?_|refine zg ?_|refine zo rfl rfl (by first|exact trivial|(simp only[AllP];omega)|(simp(discharger:=omega)only[AllP,cA,cB];omega)|(simp only[AllP,cC,cD,cE,cF,cG];omega)) ?_|refine zn ?_|refine zb ?_|refine ze rfl ?_|refine zr ?_|refine zk ?_|refine zT rfl rfl rfl ?_|refine zU rfl rfl rfl ?_|refine zV rfl rfl rfl ?_|refine zf rfl ?_|refine zt rfl ?_)
  refine o_store rfl hW2 (by rw [rowL_len]; decide) rfl rfl rfl rfl rfl rfl ?_
  intro wc2 hs2
  obtain ⟨fA3, fC3, fR3, hS3⟩ := hS2.push (k := 2) (k' := 3) (by omega) rfl rfl ka2 hb2 kb2 hnew2 hs2
  (repeat first|refine zA ?_|refine zB ?_|refine zC ?_|refine zD ?_|refine zE ?_|refine zg ?_|refine zo rfl rfl (by first|exact trivial|(simp only[AllP];omega)|(simp(discharger:=omega)only[AllP,cA,cB];omega)|(simp only[AllP,cC,cD,cE,cF,cG];omega)) ?_|refine zn ?_|refine zb ?_|refine ze rfl ?_|refine zr ?_|refine zk ?_|refine zT rfl rfl rfl ?_|refine zU rfl rfl rfl ?_|refine zV rfl rfl rfl ?_|refine zf rfl ?_|refine zt rfl ?_)
  refine o_load (v := .slice (fA3 3) (fR3 3).length (fC3 3)) rfl hS3.pi.hdr rfl rfl rfl rfl rfl ?_
  (repeat first|refine zA ?_|refine zB ?_|refine zC ?_|refine zD ?_|refine zE ?_|refine zg ?_|refine zo rfl rfl (by first|exact trivial|(simp only[AllP];omega)|(simp(discharger:=omega)only[AllP,cA,cB];omega)|(simp only[AllP,cC,cD,cE,cF,cG];omega)) ?_|refine zn ?_|refine zb ?_|refine ze rfl ?_|refine zr ?_|refine zk ?_|refine zT rfl rfl rfl ?_|refine zU rfl rfl rfl ?_|refine zV rfl rfl rfl ?_|refine zf rfl ?_|refine zt rfl ?_)
  refine o_buildSlice [.slice ad2 (i + 70) cap2] rfl (by simp [Value.oneCell']) rfl (by decide) (by decide) rfl rfl rfl rfl rfl ?_
  intro bx3 wa3 hbx3 hua3
  have ka3 := hua3.kp [] (.inr (by omega))
  have hR3 := hS3.len hg.rows (by omega)
  have hO3 := (hS3.pi.own 3 (by omega)).kp ka3 (by simp)
  refine o_append1 (T := 40) rfl rfl hO3 hua3.blk rfl rfl rfl rfl (by simp only [maxLen]; omega) (by omega) rfl rfl ?_
  intro ad3' cap3' wb3 hb3 kb3 hnew3
  have hW3 := kb3.blk (fun hb => (hS3.pi.W_away (i := 3 + 4) (by omega) (by rw [dd_ad (by omega)]; exact hb)) rfl) (hS3.pi.kp0 ka3).hdr
  (repeat first|refine zA ?_|refine zB ?_|refine zC ?_|refine zD ?_|refine zE ?_|refine zg ?_|refine zo rfl rfl (by first|exact trivial|(simp only[AllP];omega)|(simp(discharger:=omega)only[AllP,cA,cB];omega)|(simp only[AllP,cC,cD,cE,cF,cG];omega)) ?_|refine zn ?_|refine zb ?_|refine ze rfl ?_|refine zr ?_|refine zk ?_|refine zT rfl rfl rfl ?_|refine zU rfl rfl rfl ?_|refine zV rfl rfl rfl ?_|refine zf rfl ?_|refine zt rfl ?_)
  refine o_store rfl hW3 (by rw [rowL_len]; decide) rfl rfl rfl rfl rfl rfl ?_
  intro wc3 hs3
  obtain ⟨fA4, fC4, fR4, hS4⟩ := hS3.push (k := 3) (k' := 4) (by omega) rfl rfl ka3 hb3 kb3 hnew3 hs3
  (repeat first|refine zA ?_|refine zB ?_|refine zC ?_|refine zD ?_|refine zE ?_|refine zg ?_|refine zo rfl rfl (by first|exact trivial|(simp only[AllP];omega)|(simp(discharger:=omega)only[AllP,cA,cB];omega)|(simp only[AllP,cC,cD,cE,cF,cG];omega)) ?_|refine zn ?_|refine zb ?_|refine ze rfl ?_|refine zr ?_|refine zk ?_|refine zT rfl rfl rfl ?_|refine zU rfl rfl rfl ?_|refine zV rfl rfl rfl ?_|refine zf rfl ?_|refine zt rfl ?_)
  refine o_load (v := .slice (fA4 4) (fR4 4).length (fC4 4)) rfl hS4.pi.hdr rfl rfl rfl rfl rfl ?_
  (repeat first|refine zA ?_|refine zB ?_|refine zC ?_|refine zD ?_|refine zE ?_|refine zg ?_|refine zo rfl rfl (by first|exact trivial|(simp only[AllP];omega)|(simp(discharger:=omega)only[AllP,cA,cB];omega)|(simp only[AllP,cC,cD,cE,cF,cG];omega)) ?_|refine zn ?_|refine zb ?_|refine ze rfl ?_|refine zr ?_|refine zk ?_|refine zT rfl rfl rfl ?_|refine zU rfl rfl rfl ?_|refine zV rfl rfl rfl ?_|refine zf rfl ?_|refine zt rfl ?_)
  refine o_buildSlice [I m] rfl (by simp [Value.oneCell']) rfl (by decide) (by decide) rfl rfl rfl rfl rfl ?_
  intro bx4 wa4 hbx4 hua4
  have ka4 := hua4.kp [] (.inr (by omega))
  have hR4 := hS4.len hg.rows (by omega)
  have hO4 := (hS4.pi.own 4 (by omega)).kp ka4 (by simp)
  refine o_append1 (T := 3) rfl rfl hO4 hua4.blk rfl rfl rfl rfl (by simp only [maxLen]; omega) (by omega) rfl rfl ?_
  intro ad4' cap4' wb4 hb4 kb4 hnew4
  have hW4 := kb4.blk (fun hb => (hS4.pi.W_away (i := 4 + 4) (by omega) (by rw [dd_ad (by omega)]; exact hb)) rfl) (hS4.pi.kp0 ka4).hdr
  (repeat first|refine zA ?_|refine zB ?_|refine zC ?_|refine zD ?_|refine zE ?_|refine zg ?_|refine zo rfl rfl (by first|exact trivial|(simp only[AllP];omega)|(simp(discharger:=omega)only[AllP,cA,cB];omega)|(simp only[AllP,cC,cD,cE,cF,cG];omega)) ?_|refine zn ?_|refine zb ?_|refine ze rfl ?_|refine zr ?_|refine zk ?_|refine zT rfl rfl rfl ?_|refine zU rfl rfl rfl ?_|refine zV rfl rfl rfl ?_|refine zf rfl ?_|refine zt rfl ?_)
  refine o_store rfl hW4 (by rw [rowL_len]; decide) rfl rfl rfl rfl rfl rfl ?_
  intro wc4 hs4
  obtain ⟨fA5, fC5, fR5, hS5⟩ := hS4.push (k := 4) (k' := 5) (by omega) rfl rfl ka4 hb4 kb4 hnew4 hs4
  (repeat first|refine zA ?_|refine zB ?_|refine zC ?_|refine zD ?_|refine zE ?_|refine zg ?_|refine zo rfl rfl (by first|exact trivial|(simp only[AllP];omega)|(simp(discharger:=omega)only[AllP,cA,cB];omega)|(simp only[AllP,cC,cD,cE,cF,cG];omega)) ?_|refine zn ?_|refine zb ?_|refine ze rfl ?_|refine zr ?_|refine zk ?_|refine zT rfl rfl rfl ?_|refine zU rfl rfl rfl ?_|refine zV rfl rfl rfl ?_|refine zf rfl ?_|refine zt rfl ?_)
  refine ⟨_, rfl, rfl, hS5.done hg.rows (fun b hb => ?_) rfl rfl rfl rfl rfl⟩
  rcases List.mem_append.1 hb with hb | hb
  · rcases hal with e | hal
    · rw [e] at hb; exact .inl hb
    · exact .inr (hal b hb)
  · exact .inl hb
end
end Go.Vc
