/- Query: a tree's nodes in a row. -/
import Derived.Test.YtkgngbpkiklckaaGreatDoorQClQBack17
namespace Go.Vc
open Go Go.Proofs
set_option maxRecDepth 10000
variable {w : World}
def QT.kids : QT → List QT
  | .n0 .. => []
  | .n1 _ _ _ a => [a]
  | .n2 _ _ _ a b => [a, b]
def QT.num : QT → Int
  | .n0 _ m _ => m
  | .n1 _ m _ _ => m
  | .n2 _ m _ _ _ => m
def QT.name : QT → List UInt8
  | .n0 _ _ s => s
  | .n1 _ _ s _ => s
  | .n2 _ _ s _ _ => s
def QT.node (t : QT) : QN := ⟨t.op, t.size, t.num, t.name⟩
theorem QT.ind {C : QT → Prop} (h : ∀ t, (∀ k ∈ t.kids, C k) → C t) : ∀ t, C t
  | .n0 .. => h _ (by simp [QT.kids])
  | .n1 _ _ _ a => h _ (by simp [QT.kids]; exact QT.ind h a)
  | .n2 _ _ _ a b => h _ (by simp [QT.kids]; exact ⟨QT.ind h a, QT.ind h b⟩)
theorem QT.rows_kids (t : QT) : t.rows = t.node :: t.kids.flatMap QT.rows := by
  cases t <;> simp [QT.rows, QT.node, QT.kids, QT.op, QT.num, QT.name, QT.size]
theorem QT.size_kids (t : QT) : t.size = 1 + (t.kids.map QT.size).sum := by
  cases t <;> simp [QT.size, QT.kids]; omega
theorem QT.depth_le (t : QT) (m : Nat) : t.depth ≤ m + 1 ↔ ∀ k ∈ t.kids, k.depth ≤ m := by
  cases t <;> simp [QT.depth, QT.kids] <;> omega
theorem QT.depth_lt {t k : QT} (h : k ∈ t.kids) : k.depth < t.depth := by
  cases t <;> simp [QT.kids] at h
  · subst h; simp [QT.depth]
  · rcases h with rfl | rfl <;> simp [QT.depth] <;> omega
theorem QT.kids_len (t : QT) : t.kids.length ≤ 2 := by cases t <;> simp [QT.kids]
/-- a tree in memory, its kids in a row -/
theorem TreeAt.view {sh : Int → List Value} {lo : Nat} {t : QT} {p : Nat} (h : TreeAt sh lo w t p) : ∃ ad cap, ∃ ks : List (Nat × QT), ks.map (·.2) = t.kids ∧ TBlk sh w p t.op t.size t.num t.name (.slice ad ks.length cap) ∧ ReadS w ad (ks.map fun x => ptr x.1) ∧ (∀ x ∈ ks, TreeAt sh lo w x.2 x.1) ∧ lo ≤ p := by
  cases t with
  | n0 o m s => obtain ⟨h1, ad, cap, h2⟩ := h; exact ⟨ad, cap, [], rfl, h2, by cases ad with | none => rfl | some ad => exact fun i v hv => by simp at hv, by simp, h1⟩
  | n1 o m s a => obtain ⟨h1, ad, cap, q, h2, h3, h4, h5⟩ := h; exact ⟨ad, cap, [(q, a)], rfl, h2, h3, by simpa using h5, h1⟩
  | n2 o m s a b => obtain ⟨h1, ad, cap, q, r, h2, h3, h4, h5, h6⟩ := h; exact ⟨ad, cap, [(q, a), (r, b)], rfl, h2, h3, by simpa using ⟨h5, h6⟩, h1⟩
/-- the cells of a node -/
def qC (x : QN) : List Value := [I x.op, I x.size, I x.num, S x.name]
theorem qC_len (x : QN) : (qC x).length = 4 := rfl
theorem rows_cells_len (l : List QN) : (l.flatMap qC).length = l.length * 4 := by
  induction l with
  | nil => rfl
  | cons x l ih => simp only [List.flatMap_cons, List.length_append, ih, qC_len, List.length_cons]; omega
set_option maxHeartbeats 6400000 in
theorem lay_ok : ∀ (t : QT) {sh : Int → List Value} {lo : Nat} {w0 w : World} {q n cap : Nat} {ad : Option Addr} {xs : List Value} (above : Nat), (∀ o, (sh o).length = 6) → TreeAt sh lo w0 t q → Kp [] w0 w → OwnS w 81 4 ad n cap xs → (∀ b ∈ blkOf ad, w0.heap.size ≤ b) → n + t.size ≤ 1048576 → above ≤ 1000 →
    RetP Tryz.prog 44 [ptr q, .slice ad n cap, I above] w (fun v w' => above + t.depth ≤ 64 ∧ ∃ ad' cap', v = .slice ad' (n + t.size) cap' ∧ OwnS w' 81 4 ad' (n + t.size) cap' (xs ++ t.rows.flatMap qC) ∧ Kp [] w0 w' ∧ ∀ b ∈ blkOf ad', w0.heap.size ≤ b)
      (fun v w' => 64 < above + t.depth ∧ v = refV 302 0 ∧ Kp [] w0 w') := by
  intro t
  induction t using QT.ind with
  | h t ih =>
  intro sh lo w0 w q n cap ad xs above hsh hT k0 hO hfr hn habv
  obtain ⟨bad, bcap, ks, hks, hB, hR, hK, _⟩ := hT.view
  have hBw := k0.blk (by simp) hB
  have hRw := hR.kp k0 (by simp)
  have hz := t.size_kids
  refine enterP Tryz.call44 Tryz.func44 rfl rfl rfl rfl ?_
  (repeat first|refine zA ?_|refine zB ?_|refine zg ?_|refine zo rfl rfl trivial ?_|refine zn ?_)
  refine r_if rfl (fun hc => ?_) (fun hc => ?_)
  · (repeat refine zg ?_)
    exact o_callP (refuse_ret _ _ (fun _ _ => False)) rfl rfl rfl (fun v w' ⟨h, h'⟩ => ⟨by omega, h, h' ▸ k0⟩) (fun v w' h => h.elim)
  · (repeat first|refine zA ?_|refine zg ?_|refine zo rfl rfl trivial ?_|refine zk ?_)
    refine o_loadA (b := q) (off := 0) (vs := qC t.node) rfl (fun j v hv => hBw.cell (by
      rw [Nat.zero_add, List.append_assoc, List.getElem?_append_left (by have h := (List.getElem?_eq_some_iff.1 hv).1; simpa [qC] using h)]
      exact hv)) rfl rfl rfl rfl rfl rfl ?_
    refine o_buildSliceN (qC t.node) rfl rfl rfl (by kernel_rfl) rfl rfl rfl rfl ?_
    intro b w1 hb hu1
    have k1 : Kp [] w w1 := hu1.kp [] (.inr (by omega))
    refine o_append (ay := ⟨b, 0, none⟩) (m := 1) (qC t.node) rfl rfl (hO.kp k1 (by simp)) (fun j v hv => by rw [addr_lit, Nat.zero_add]; exact hu1.blk.cell hv) rfl rfl rfl (by decide) rfl (by decide) (by simp [Value.oneCell', qC]) (by simp only [maxLen]; omega) (by omega) rfl rfl ?_
    intro ad1 cap1 w2 hO2 k2 hn2
    have k02 : Kp [] w0 w2 := (k0.trans k1).since k2 hfr
    have hfr2 : ∀ b ∈ blkOf ad1, w0.heap.size ≤ b := fun c hc => by
      rcases hn2 c hc with h | h
      · exact hfr c h
      · have := (k0.trans k1).size; omega
    have hB2 := k02.blk (by simp) hB
    have hR2 := hR.kp k02 (by simp)
    (repeat first|refine zA ?_|refine zB ?_|refine zg ?_|refine zo rfl rfl trivial ?_|refine zn ?_)
    refine o_load (v := .slice bad ks.length bcap) rfl hB2 (by
      have e : ([I t.op, I t.size, I t.num, S t.name] ++ sh t.op ++ [Value.slice bad ks.length bcap])[10]? = some (.slice bad ks.length bcap) := by
        rw [List.getElem?_append_right (by simp [hsh])]
        simp [hsh]
      exact e) rfl rfl rfl rfl ?_
    (repeat first|refine zo rfl rfl trivial ?_|refine zn ?_|refine zb ?_)
    have hkl : ks.length ≤ 2 := by rw [← List.length_map (f := fun x : Nat × QT => x.2), hks]; exact t.kids_len
    have hsum : ∀ i, ((ks.take i).map fun x => x.2.size).sum ≤ (t.kids.map QT.size).sum := by
      intro i
      rw [← hks, List.map_map]
      have := List.take_append_drop i ks
      conv => rhs; rw [← this]
      rw [List.map_append, List.sum_append]
      show _ ≤ ((ks.take i).map fun x => x.2.size).sum + _
      omega
    refine r_loop (α := Nat × Option Addr × Nat) [1, 2, 22, 23, 24] (fun x => [.slice x.2.1 (n + 1 + ((ks.take x.1).map fun x => x.2.size).sum) x.2.2, I above, .slice bad ks.length bcap, I ks.length, I x.1])
      (fun x W => x.1 ≤ ks.length ∧ Kp [] w0 W ∧ OwnS W 81 4 x.2.1 (n + 1 + ((ks.take x.1).map fun x => x.2.size).sum) x.2.2 (xs ++ (t.node :: (ks.take x.1).flatMap fun x => x.2.rows).flatMap qC) ∧ (∀ b ∈ blkOf x.2.1, w0.heap.size ≤ b) ∧ ∀ y ∈ ks.take x.1, above + 1 + y.2.depth ≤ 64) (fun x => ks.length - x.1) (0, ad1, cap1) rfl ⟨Nat.zero_le _, k02, by simpa using hO2, hfr2, by simp⟩ ?_
    rintro ⟨i, ad3, cap3⟩ e W ⟨hi, kW, hOW, hfW, hd⟩
    dsimp only at hi hOW hfW hd ⊢
    (repeat first|refine zA ?_|refine zD ?_|refine zg ?_|refine zo rfl rfl trivial ?_|refine zn ?_)
    refine r_if rfl (fun hlt => ?_) (fun hlt => ?_)
    · have hi2 : i < ks.length := by omega
      obtain ⟨x, hx⟩ : ∃ x, ks[i]? = some x := ⟨_, List.getElem?_eq_getElem hi2⟩
      obtain ⟨b3, off, rfl, _, hcell⟩ := (hR.kp kW (by simp)).at_ (by simp; omega)
      have hxm := List.mem_of_getElem? hx
      have hxk : x.2 ∈ t.kids := by rw [← hks]; exact List.mem_map_of_mem hxm
      have ht1 : (ks.take (i + 1)) = ks.take i ++ [x] := by rw [List.take_add_one, hx]; rfl
      have hs1 : ((ks.take (i + 1)).map fun x => x.2.size).sum = ((ks.take i).map fun x => x.2.size).sum + x.2.size := by rw [ht1]; simp
      have hs2 := hsum (i + 1)
      (repeat first|refine zA ?_|refine zC ?_|refine zg ?_|refine zo rfl rfl (by first|exact trivial|(simp only[AllP];omega)) ?_|refine zb ?_|refine zk ?_)
      refine o_loadc (v := ptr x.1) rfl (by rw [toNat_nat]; exact hcell i _ (by rw [List.getElem?_map, hx]; rfl)) rfl rfl rfl rfl ?_
      (repeat first|refine zg ?_|refine zo rfl rfl (by first|exact trivial|(simp only[AllP];omega)) ?_|refine zn ?_)
      refine o_callP (ih x.2 hxk (above + 1) hsh (hK x hxm) kW hOW hfW (by omega) (by omega)) rfl rfl rfl (fun v w' hE => ?_) ?_
      · obtain ⟨g1, g2, g3⟩ := hE
        have := t.depth_lt hxk
        exact ⟨by omega, g2, g3⟩
      rintro v w4 ⟨g1, ad', cap', rfl, hO4, k4, hf4⟩
      (repeat first|refine zg ?_|refine zo rfl rfl (by first|exact trivial|(simp only[AllP];omega)) ?_|refine zn ?_)
      have e1 : n + 1 + ((ks.take (i + 1)).map fun x => x.2.size).sum = n + 1 + ((ks.take i).map fun x => x.2.size).sum + x.2.size := by omega
      refine ⟨(i + 1, ad', cap'), ?_, ⟨by dsimp only; omega, k4, ?_, hf4, ?_⟩, by dsimp only; omega⟩
      · dsimp only; rw [e1]; rfl
      · dsimp only
        rw [e1, ht1, List.flatMap_append, List.flatMap_singleton, ← List.cons_append, List.flatMap_append, ← List.append_assoc]
        exact hO4
      · intro y hy
        dsimp only at hy
        rw [ht1, List.mem_append] at hy
        rcases hy with hy | hy
        · exact hd y hy
        · simp at hy; subst hy; omega
    · have : i = ks.length := by omega
      subst this
      rw [List.take_length] at hOW hd
      have e1 : (ks.map fun x => x.2.size).sum = (t.kids.map QT.size).sum := by rw [← hks, List.map_map]; rfl
      have e2 : (ks.flatMap fun x => x.2.rows) = t.kids.flatMap QT.rows := by rw [← hks, List.flatMap_map]
      have e3 : n + 1 + (ks.map fun x => x.2.size).sum = n + t.size := by omega
      rw [e3, e2, ← t.rows_kids] at hOW
      rw [List.take_length, e3]
      (repeat first|refine zA ?_|refine zg ?_|refine zo rfl rfl trivial ?_|refine zn ?_|refine ze rfl ?_|refine zr ?_)
      refine ⟨_, rfl, ?_, ad3, cap3, rfl, hOW, kW, hfW⟩
      rcases Nat.eq_zero_or_pos t.depth with h0 | h0
      · omega
      · have := (t.depth_le (63 - above)).2 (fun k hk => by
          rw [← hks] at hk
          obtain ⟨y, hy, rfl⟩ := List.mem_map.1 hk
          have := hd y hy
          omega)
        by_cases hab : above ≤ 63
        · omega
        · exfalso
          obtain ⟨k, hk⟩ : ∃ k, k ∈ t.kids := by
            cases t with
            | n0 => simp [QT.depth] at h0
            | n1 _ _ _ a => exact ⟨a, by simp [QT.kids]⟩
            | n2 _ _ _ a b => exact ⟨a, by simp [QT.kids]⟩
          rw [← hks] at hk
          obtain ⟨y, hy, rfl⟩ := List.mem_map.1 hk
          have := hd y hy
          omega
end Go.Vc
