/- Query: a name in another one's place, in plain Lean (no program in sight). -/
import Derived.Test.YtkgngbpkiklckaaGreatDoorQClQRenames10
import Derived.Test.YtkgngbpkiklckaaGreatDoorQClQRenames45
namespace Go.Vc
open Go
variable {a c : List UInt8}
/-- a name, one in another one's place -/
def rn (a c n : List UInt8) : List UInt8 := if n = a then c else n
theorem rn_inj {n m : List UInt8} (hn : n ≠ c) (hm : m ≠ c) : rn a c n = rn a c m ↔ n = m := by
  unfold rn
  by_cases h1 : n = a <;> by_cases h2 : m = a
  · simp [h1, h2]
  · rw [if_pos h1, if_neg h2, h1]
    exact ⟨fun h => absurd h.symm hm, fun h => absurd h.symm h2⟩
  · rw [if_neg h1, if_pos h2, h2]
    exact ⟨fun h => absurd h hn, fun h => absurd h h1⟩
  · rw [if_neg h1, if_neg h2]
def rnN (a c : List UInt8) (x : QN) : QN := if x.name = a then { x with name := c } else x
theorem rnN_eq (x : QN) : rnN a c x = ⟨x.op, x.size, x.num, rn a c x.name⟩ := by
  unfold rnN rn; split <;> rfl
def rnT (a c : List UInt8) : QT → QT
  | .n0 op num name => .n0 op num (rn a c name)
  | .n1 op num name x => .n1 op num (rn a c name) (rnT a c x)
  | .n2 op num name x y => .n2 op num (rn a c name) (rnT a c x) (rnT a c y)
theorem rnT_size : ∀ t : QT, (rnT a c t).size = t.size
  | .n0 .. => rfl
  | .n1 _ _ _ x => by simp [rnT, QT.size, rnT_size x]
  | .n2 _ _ _ x y => by simp [rnT, QT.size, rnT_size x, rnT_size y]
theorem rnT_op (t : QT) : (rnT a c t).op = t.op := by cases t <;> rfl
theorem own_rn (ha : qName a = true) (hc : qName c = true) (op num : Int) (name : List UInt8) : ownQ op num (rn a c name) = ownQ op num name := by
  have na : a ≠ [] := by rintro rfl; exact absurd ha (by decide)
  have nc : c ≠ [] := by rintro rfl; exact absurd hc (by decide)
  unfold rn
  by_cases h : name = a
  · subst h
    rw [if_pos rfl]
    unfold ownQ
    rw [ha, hc]
    simp [na, nc]
  · rw [if_neg h]
theorem grow_rn (ha : qName a = true) (hc : qName c = true) : ∀ (f ab : Nat) (l : List QN), growF f ab (l.map (rnN a c)) = (growF f ab l).map fun x => (rnT a c x.1, x.2.map (rnN a c))
  | 0, _, _ => by simp [growF]
  | _ + 1, _, [] => by simp [growF]
  | f + 1, ab, x :: r => by
    have ih := grow_rn ha hc f (ab + 1)
    rw [List.map_cons, growF, growF, rnN_eq]
    dsimp only
    rw [own_rn ha hc]
    by_cases h1 : 64 < ab
    · rw [if_pos h1, if_pos h1]; rfl
    rw [if_neg h1, if_neg h1]
    by_cases h2 : ownQ x.op x.num x.name = false
    · rw [if_pos h2, if_pos h2]; rfl
    rw [if_neg h2, if_neg h2]
    by_cases h3 : kidsO x.op.toNat = 0
    · rw [if_pos h3, if_pos h3]
      by_cases h4 : x.size = 1
      · rw [if_pos h4, if_pos h4]; rfl
      · rw [if_neg h4, if_neg h4]; rfl
    rw [if_neg h3, if_neg h3, ih r]
    cases hg : growF f (ab + 1) r with
    | none => rfl
    | some y =>
      obtain ⟨t1, r1⟩ := y
      simp only [Option.map_some]
      rw [rnT_size]
      by_cases h5 : kidsO x.op.toNat = 1
      · rw [if_pos h5, if_pos h5]
        by_cases h6 : x.size = 1 + t1.size
        · rw [if_pos h6, if_pos h6]; rfl
        · rw [if_neg h6, if_neg h6]; rfl
      · rw [if_neg h5, if_neg h5, ih r1]
        cases hg2 : growF f (ab + 1) r1 with
        | none => rfl
        | some z =>
          obtain ⟨t2, r2⟩ := z
          simp only [Option.map_some]
          rw [rnT_size]
          by_cases h6 : x.size = 1 + t1.size + t2.size
          · rw [if_pos h6, if_pos h6]; rfl
          · rw [if_neg h6, if_neg h6]; rfl
theorem whole_rn (ha : qName a = true) (hc : qName c = true) (l : List QN) : wholeM (l.map (rnN a c)) = (wholeM l).map (rnT a c) := by
  unfold wholeM
  rw [grow_rn ha hc]
  cases growF 66 0 l with
  | none => rfl
  | some x =>
    obtain ⟨t, r⟩ := x
    cases r <;> rfl
/-- a name stands nowhere in a tree -/
def freeT (c : List UInt8) : QT → Prop
  | .n0 _ _ name => name ≠ c
  | .n1 _ _ name x => name ≠ c ∧ freeT c x
  | .n2 _ _ name x y => name ≠ c ∧ freeT c x ∧ freeT c y
theorem freeT_rows : ∀ {t : QT}, (∀ x ∈ t.rows, x.name ≠ c) → freeT c t
  | .n0 op num name, h => h ⟨op, 1, num, name⟩ (by simp [QT.rows])
  | .n1 op num name x, h => ⟨h ⟨op, 1 + x.size, num, name⟩ (by simp [QT.rows]), freeT_rows fun y hy => h y (by simp [QT.rows, hy])⟩
  | .n2 op num name x y, h => ⟨h ⟨op, 1 + x.size + y.size, num, name⟩ (by simp [QT.rows]), freeT_rows fun z hz => h z (by simp [QT.rows, hz]), freeT_rows fun z hz => h z (by simp [QT.rows, hz])⟩
theorem contains_rn {name : List UInt8} (hn : name ≠ c) : ∀ {L : List (List UInt8)}, (∀ m ∈ L, m ≠ c) → (L.map (rn a c)).contains (rn a c name) = L.contains name
  | [], _ => rfl
  | m :: L, h => by
    rw [List.map_cons, List.contains_cons, List.contains_cons, contains_rn hn (fun k hk => h k (by simp [hk]))]
    congr 1
    have := rn_inj (a := a) hn (h m (by simp))
    rw [Bool.eq_iff_iff, beq_iff_eq, beq_iff_eq]; exact this
theorem named_rn : ∀ (t : QT) (L : List (List UInt8)), freeT c t → (∀ m ∈ L, m ≠ c) → namedQ (rnT a c t) (L.map (rn a c)) = namedQ t L
  | .n0 op num name, L, ht, hL => by
    rw [rnT, namedQ, namedQ, contains_rn ht hL]
  | .n1 op num name x, L, ht, hL => by
    rw [rnT, namedQ, namedQ]
    by_cases h : 22 ≤ op
    · rw [if_pos h, if_pos h]
      have := named_rn x (L ++ [name]) ht.2 (fun m hm => by
        rcases List.mem_append.1 hm with hm | hm
        · exact hL m hm
        · rw [List.mem_singleton.1 hm]; exact ht.1)
      rw [List.map_append] at this
      exact this
    · rw [if_neg h, if_neg h]
      exact named_rn x L ht.2 hL
  | .n2 op num name x y, L, ht, hL => by
    rw [rnT, namedQ, namedQ, named_rn x L ht.2.1 hL, named_rn y L ht.2.2 hL]
theorem sense_rn : ∀ t : QT, senseQ (rnT a c t) = senseQ t
  | .n0 .. => rfl
  | .n1 _ _ _ x => by rw [rnT, senseQ, senseQ, rnT_op, sense_rn x]
  | .n2 _ _ _ x y => by rw [rnT, senseQ, senseQ, rnT_op, rnT_op, sense_rn x, sense_rn y]
theorem evq_rn (W : QW) : ∀ (t : QT) (σ τ : List UInt8 → Int), freeT c t → (∀ n, n ≠ c → τ (rn a c n) = σ n) → evq W (rnT a c t) τ = evq W t σ
  | .n0 op num name, σ, τ, ht, h => by
    rw [rnT, evq, evq, h name ht]
  | .n1 op num name x, σ, τ, ht, h => by
    have hs : ∀ i : Int, ∀ n, n ≠ c → setV τ (rn a c name) i (rn a c n) = setV σ name i n := by
      intro i n hn
      unfold setV
      by_cases e : n = name
      · rw [if_pos e, if_pos (by rw [e])]
      · rw [if_neg e, if_neg (fun hh => e ((rn_inj hn ht.1).1 hh)), h n hn]
    have hf : (fun i => evq W (rnT a c x) (setV τ (rn a c name) i)) = fun i => evq W x (setV σ name i) := by
      funext i; exact evq_rn W x _ _ ht.2 (hs i)
    rw [rnT, evq, evq, hf, evq_rn W x σ τ ht.2 h]
  | .n2 op num name x y, σ, τ, ht, h => by
    rw [rnT, evq, evq, evq_rn W x σ τ ht.2.1 h, evq_rn W y σ τ ht.2.2 h]
theorem looked_rn (ha : qName a = true) (hc : qName c = true) {l : List QN} (hf : ∀ t, wholeM l = some t → freeT c t) : lookedM (l.map (rnN a c)) = match lookedM l with | .error e => .error e | .ok t => .ok (rnT a c t) := by
  unfold lookedM
  rw [whole_rn ha hc]
  cases hw : wholeM l with
  | none => rfl
  | some t =>
    have hft := hf t hw
    have hn := named_rn (a := a) t [] hft (fun m hm => by simp at hm)
    simp only [Option.map_some]
    rw [List.map_nil] at hn
    rw [hn, sense_rn]
    by_cases h1 : namedQ t [] = false
    · rw [if_pos h1, if_pos h1]
    · rw [if_neg h1, if_neg h1]
      by_cases h2 : senseQ t = false
      · rw [if_pos h2, if_pos h2]
      · rw [if_neg h2, if_neg h2]
/-- there and back -/
theorem rnN_back {x : QN} (h : x.name ≠ c) : rnN c a (rnN a c x) = x := by
  obtain ⟨o, s, m, n⟩ := x
  rw [rnN_eq, rnN_eq]
  unfold rn
  dsimp only at h ⊢
  by_cases e : n = a
  · rw [if_pos e, if_pos rfl, e]
  · rw [if_neg e, if_neg h]
theorem map_back {l : List QN} (h : ∀ x ∈ l, x.name ≠ c) : (l.map (rnN a c)).map (rnN c a) = l := by
  induction l with
  | nil => rfl
  | cons x r ih => rw [List.map_cons, List.map_cons, rnN_back (h x (by simp)), ih (fun y hy => h y (by simp [hy]))]
theorem rnN_gone {x : QN} (hac : a ≠ c) : (rnN a c x).name ≠ a := by
  rw [rnN_eq]
  unfold rn
  dsimp only
  by_cases e : x.name = a
  · rw [if_pos e]; exact fun h => hac h.symm
  · rw [if_neg e]; exact e
/-- names in a row -/
def hasM (l : List QN) (n : List UInt8) : Bool := l.any fun x => decide (x.name = n)
theorem hasM_no {l : List QN} {n : List UInt8} (h : hasM l n = false) : ∀ x ∈ l, x.name ≠ n := by
  intro x hx e
  unfold hasM at h
  rw [List.any_eq_false] at h
  exact h x hx (decide_eq_true e)
theorem hasM_gone {l : List QN} (hac : a ≠ c) : hasM (l.map (rnN a c)) a = false := by
  unfold hasM
  rw [List.any_eq_false]
  intro x hx
  obtain ⟨y, _, rfl⟩ := List.mem_map.1 hx
  simpa using rnN_gone hac
end Go.Vc
/- Query: has, Same; a renamed question is asked. -/
namespace Go.Vc
open Go Go.Proofs
set_option maxRecDepth 20000
variable {w : World}
theorem renN_rn : renN = rnN := rfl
theorem eqMix_node (a b : QN) : eqMix (qC a) (qC b) = decide (a = b) := by
  obtain ⟨a1, a2, a3, a4⟩ := a
  obtain ⟨b1, b2, b3, b4⟩ := b
  have hS : eqVal (S a4) (S b4) = decide (a4 = b4) := by
    unfold eqVal
    simp only [ByteArray.toList_eq]
    rw [Bool.eq_iff_iff, beq_iff_eq, decide_eq_true_eq]
  simp only [qC, eqMix, QN.mk.injEq, hS]
  simp only [eqVal, beq_iff_eq, decide_eq_true_eq]
  by_cases h1 : a1 = b1 <;> by_cases h2 : a2 = b2 <;> by_cases h3 : a3 = b3 <;> by_cases h4 : a4 = b4 <;> simp [h1, h2, h3, h4]
/-- a node's cells -/
theorem Rows.cellN {ad : Option Addr} {cap : Nat} {l : List QN} (h : Rows w ad cap l) {i : Nat} {x : QN} (hx : l[i]? = some x) : ∃ b off, ad = some ⟨b, off, none⟩ ∧ b < w.heap.size ∧ ∀ j v, (qC x)[j]? = some v → w.cell? ⟨b, off + i * 4 + j, none⟩ = some v := by
  have hi := (List.getElem?_eq_some_iff.1 hx).1
  have hfl : (l.flatMap qC).length = l.length * 4 := by
    clear h hx hi
    induction l with
    | nil => rfl
    | cons y r ih => rw [List.flatMap_cons, List.length_append, ih, List.length_cons]; simp [qC]; omega
  obtain ⟨b, off, rfl, hbl, hcell⟩ := h.read.at_ (by rw [hfl]; omega)
  exact ⟨b, off, rfl, hbl, fun j v hv => by rw [Nat.add_assoc]; exact hcell _ _ (flC_get (f := qC) (m := 4) (fun _ => rfl) hx hv)⟩
theorem has_ret {l : List QN} {ad : Option Addr} {cap : Nat} (hR : Rows w ad cap l) (n : List UInt8) :
    Ret Tryz.prog 25 [.agg ⟨[.slice ad l.length cap]⟩, S n] w (fun v w' => v = .bool (hasM l n) ∧ Kp [] w w') := by
  have hm := hR.max_
  have hcl := hR.cap_
  refine enter Tryz.call25 Tryz.func25 rfl rfl rfl rfl ?_
  (repeat first|refine zA ?_|refine zg ?_)
  refine o_box rfl rfl rfl ?_
  intro b w1 hb hu1
  have k1 : Kp [] w w1 := hu1.kp [] (.inr (by omega))
  have hb1 : Blk w1 b [.slice ad l.length cap] 24 := hu1.blk
  clear hu1
  (repeat first|refine zA ?_|refine zB ?_|refine zg ?_|refine zo rfl rfl trivial ?_|refine zn ?_|refine zb ?_)
  refine r_loop (α := Nat) [1, 2, 5] (fun i => [S n, ptr b, I i]) (fun i W => i ≤ l.length ∧ W = w1 ∧ (l.take i).any (fun x => decide (x.name = n)) = false) (fun i => l.length - i) 0 rfl ⟨Nat.zero_le _, rfl, rfl⟩ ?_
  rintro i e W ⟨hi, rfl, hn⟩
  (repeat first|refine zA ?_|refine zB ?_|refine zg ?_|refine zo rfl rfl trivial ?_|refine zn ?_|refine o_load rfl hb1 rfl rfl rfl rfl rfl ?_)
  refine r_if rfl (fun hc => ?_) (fun hc => ?_)
  · have hi2 : i < l.length := by omega
    obtain ⟨x, hx⟩ : ∃ x, l[i]? = some x := ⟨_, List.getElem?_eq_getElem hi2⟩
    obtain ⟨b0, off, rfl, _, hcell⟩ := (hR.kp k1 (by simp)).cellN hx
    have ht1 : l.take (i + 1) = l.take i ++ [x] := by rw [List.take_add_one, hx]; rfl
    (repeat first|refine zA ?_|refine zC ?_|refine zg ?_|refine zo rfl rfl (by first|exact trivial|(simp only[AllP];omega)) ?_|refine zb ?_|refine zk ?_|refine o_load rfl hb1 rfl rfl rfl rfl rfl ?_)
    refine o_loadc (v := S x.name) rfl (by rw [toNat_nat]; exact hcell 3 _ rfl) rfl rfl rfl rfl ?_
    (repeat first|refine zo rfl rfl trivial ?_|refine zn ?_)
    refine r_if rfl (fun h => ?_) (fun h => ?_)
    · (repeat first|refine zA ?_|refine zg ?_|refine zo rfl rfl trivial ?_|refine zn ?_|refine zr ?_)
      refine ⟨_, rfl, ?_, k1⟩
      unfold hasM
      rw [List.any_eq_true.2 ⟨x, List.mem_of_getElem? hx, decide_eq_true h⟩]
    · (repeat first|refine zg ?_|refine zo rfl rfl (by first|exact trivial|(simp only[AllP];omega)) ?_|refine zn ?_|refine zk ?_)
      exact ⟨i + 1, rfl, ⟨by omega, rfl, by rw [ht1, List.any_append, hn]; simp [h]⟩, by omega⟩
  · have : i = l.length := by omega
    subst this
    rw [List.take_length] at hn
    (repeat first|refine zA ?_|refine zg ?_|refine zo rfl rfl trivial ?_|refine zn ?_|refine ze rfl ?_|refine zr ?_)
    exact ⟨_, rfl, by unfold hasM; rw [hn], k1⟩
set_option maxHeartbeats 6400000 in
theorem Same30_ret {l m : List QN} {ad bd : Option Addr} {cap cap' : Nat} (hR : Rows w ad cap l) (hM : Rows w bd cap' m) :
    Ret Tryz.prog 15 [.agg ⟨[.slice ad l.length cap]⟩, .agg ⟨[.slice bd m.length cap']⟩] w (fun v w' => v = .bool (decide (l = m)) ∧ Kp [] w w') := by
  have hm := hR.max_
  have hcl := hR.cap_
  have hm' := hM.max_
  have hcl' := hM.cap_
  refine enter Tryz.call15 Tryz.func15 rfl rfl rfl rfl ?_
  (repeat first|refine zA ?_|refine zg ?_)
  refine o_box rfl rfl rfl ?_
  intro b w1 hb hu1
  have k1 : Kp [] w w1 := hu1.kp [] (.inr (by omega))
  refine o_box rfl rfl rfl ?_
  intro c w2 hc hu2
  have k2 : Kp [] w1 w2 := hu2.kp [] (.inr (by omega))
  have hb2 : Blk w2 b [.slice ad l.length cap] 24 := k2.blk (by simp) hu1.blk
  have hc2 : Blk w2 c [.slice bd m.length cap'] 24 := hu2.blk
  have k02 := k1.trans k2
  clear hu1 hu2 k1 k2
  (repeat first|refine zA ?_|refine zB ?_|refine zg ?_|refine zo rfl rfl trivial ?_|refine zn ?_|refine o_load rfl hb2 rfl rfl rfl rfl rfl ?_)
  (repeat first|refine zo rfl rfl trivial ?_|refine zn ?_|refine o_load rfl hc2 rfl rfl rfl rfl rfl ?_)
  refine r_ifn rfl (fun hne => ?_) (fun heq => ?_)
  · (repeat first|refine zA ?_|refine zg ?_|refine zo rfl rfl trivial ?_|refine zn ?_|refine zr ?_)
    exact ⟨_, rfl, by rw [decide_eq_false]; rintro rfl; exact hne rfl, k02⟩
  have hlen : l.length = m.length := by omega
  (repeat first|refine zA ?_|refine zB ?_|refine zg ?_|refine zo rfl rfl trivial ?_|refine zn ?_|refine zb ?_|refine zk ?_)
  refine r_loop (α := Nat) [2, 3, 5] (fun i => [ptr b, ptr c, I i]) (fun i W => i ≤ l.length ∧ Kp [] w2 W ∧ l.take i = m.take i) (fun i => l.length - i) 0 rfl ⟨Nat.zero_le _, Kp.refl _ _, rfl⟩ ?_
  rintro i e W ⟨hi, kW, hn⟩
  have hbW := kW.blk (by simp) hb2
  have hcW := kW.blk (by simp) hc2
  (repeat first|refine zA ?_|refine zB ?_|refine zg ?_|refine zo rfl rfl trivial ?_|refine zn ?_|refine o_load rfl hbW rfl rfl rfl rfl rfl ?_)
  refine r_if rfl (fun hc => ?_) (fun hc => ?_)
  · have hi2 : i < l.length := by omega
    obtain ⟨x, hx⟩ : ∃ x, l[i]? = some x := ⟨_, List.getElem?_eq_getElem hi2⟩
    obtain ⟨y, hy⟩ : ∃ y, m[i]? = some y := ⟨_, List.getElem?_eq_getElem (by omega)⟩
    obtain ⟨b0, o0, rfl, lt0, cell0⟩ := (hR.kp (k02.trans kW) (by simp)).cellN hx
    obtain ⟨b1, o1, rfl, lt1, cell1⟩ := (hM.kp (k02.trans kW) (by simp)).cellN hy
    have htl : l.take (i + 1) = l.take i ++ [x] := by rw [List.take_add_one, hx]; rfl
    have htm : m.take (i + 1) = m.take i ++ [y] := by rw [List.take_add_one, hy]; rfl
    (repeat first|refine zC ?_|refine zb ?_|refine zk ?_)
    refine r_seq ?_
    refine r_cut (α := Unit) [2, 3, 5, 30] (fun _ => [ptr b, ptr c, I i, .bool (!decide (x = y))]) (fun _ W' => Kp [] W W') ?_ ?_
    · refine r_quietK follows_mixed (by kernel_rfl) ?_
      (repeat first|refine yo rfl rfl (by first|exact trivial|(simp only[AllP];omega)) ?_|refine q_load rfl (fun _ hs => (Kp.blk hs (by simp) hbW).cell rfl) rfl rfl rfl rfl ?_)
      refine q_loadA (vs := qC x) rfl (fun w' h' j v hv => by
        rw [toNat_nat, ← cell0 j v hv]
        exact World.cell?_of_block (h'.at_ b0 lt0 (by simp))) rfl rfl rfl rfl rfl rfl ?_
      (repeat first|refine yo rfl rfl (by first|exact trivial|(simp only[AllP];omega)) ?_|refine q_load rfl (fun _ hs => (Kp.blk hs (by simp) hcW).cell rfl) rfl rfl rfl rfl ?_)
      refine q_loadA (vs := qC y) rfl (fun w' h' j v hv => by
        rw [toNat_nat, ← cell1 j v hv]
        exact World.cell?_of_block (h'.at_ b1 lt1 (by simp))) rfl rfl rfl rfl rfl rfl ?_
      refine q_neqX (qC x) (qC y) rfl rfl rfl (by kernel_rfl) (by kernel_rfl) rfl rfl rfl rfl ?_
      rw [eqMix_node]
      (repeat refine yn ?_)
      intro w' hs
      exact ⟨(), rfl, hs⟩
    rintro _ e2 w3 k3
    refine r_ifn rfl (fun h => ?_) (fun h => ?_)
    · (repeat first|refine zA ?_|refine zg ?_|refine zo rfl rfl trivial ?_|refine zn ?_|refine zr ?_)
      refine ⟨_, rfl, ?_, (k02.trans kW).trans k3⟩
      rw [decide_eq_false]
      rintro rfl
      rw [hx] at hy
      exact h (Option.some.inj hy)
    · (repeat first|refine zg ?_|refine zo rfl rfl (by first|exact trivial|(simp only[AllP];omega)) ?_|refine zn ?_|refine zk ?_)
      exact ⟨i + 1, rfl, ⟨by omega, kW.trans k3, by rw [htl, htm, hn, h]⟩, by omega⟩
  · have : i = l.length := by omega
    subst this
    rw [List.take_length, hlen, List.take_length] at hn
    (repeat first|refine zA ?_|refine zg ?_|refine zo rfl rfl trivial ?_|refine zn ?_|refine ze rfl ?_|refine zr ?_)
    exact ⟨_, rfl, by rw [decide_eq_true hn], k02.trans kW⟩
end Go.Vc
