/- Query: the kinds' words, names. -/
import Derived.Test.YtkgngbpkiklckaaGreatDoorQClQAlike13
import Derived.Test.YtkgngbpkiklckaaGreatDoorQClQAlike10
namespace Go.Vc
open Go Go.Proofs
set_option maxRecDepth 10000
variable {w : World}
/-- the table of blanks as laid -/
def AscW (w : World) : Prop := Lib.TabIs Tryz.prog w "strings.asciiSpace" .u8 Lib.asciiSpaceTab
theorem ascG : Tryz.prog.globalNamed "strings.asciiSpace" = some 0 := by kernel_rfl
theorem AscW.heap {w w' : World} (h : AscW w) (hk : w'.heap[0]? = w.heap[0]?) : AscW w' := by
  unfold AscW Lib.TabIs World.var? at *
  rw [ascG] at *
  simp only [Option.bind_some] at *
  rw [hk]; exact h
theorem AscW.lt {w : World} (h : AscW w) : 0 < w.heap.size := by
  unfold AscW Lib.TabIs World.var? at *
  rw [ascG] at *
  simp only [Option.bind_some] at *
  apply Classical.byContradiction
  intro hn
  rw [Array.getElem?_eq_none (by omega)] at h
  simp at h
theorem AscW.kp {w w' : World} (h : AscW w) {Q : List Nat} (hk : Kp Q w w') (hQ : 0 ∉ Q) : AscW w' := h.heap (hk.at_ _ h.lt hQ)
def kindText : List UInt8 := [114, 101, 97, 100, 32, 119, 114, 105, 116, 101, 32, 108, 111, 111, 107, 32, 115, 101, 116, 32, 108, 111, 99, 107, 32, 117, 110, 108, 111, 99, 107, 32, 102, 111, 114, 107, 32, 106, 111, 105, 110, 32, 97, 114, 114, 105, 118, 101, 32, 100, 101, 112, 97, 114, 116, 32, 101, 120, 105, 116]
theorem kind_fields : Lib.fields kindText = kindWords := by decide +kernel
theorem kind_ascii : ∀ b ∈ kindText, b.toNat < 128 := by decide +kernel
theorem fieldsQ_ret (hA : AscW w) : Ret Tryz.prog 142 [S kindText] w (fun v w' => v = .slice (some ⟨w.heap.size, 0, none⟩) 11 11 ∧ ReadS w' (some ⟨w.heap.size, 0, none⟩) (kindWords.map S) ∧ Kp [] w w') := by
  refine ⟨Tryz.call142, ?_⟩
  refine Calls.mono (Any.strings_Fields Tryz.layFields (by kernel_rfl) ascG ⟨⟨kindText⟩⟩ w (by decide) (fun j b hj => kind_ascii b (List.mem_of_getElem? (by simpa using hj))) hA) ?_
  rintro e w' ⟨rfl, hw⟩
  have e1 : Lib.fields (ByteArray.mk ⟨kindText⟩).data.toList = kindWords := kind_fields
  rw [e1] at hw ⊢
  have hu : Upd w w.heap.size (.cells ⟨kindWords.map S⟩ 9 (0, 0)) w' := by rw [hw]; exact upd_alloc w _
  refine ⟨_, rfl, rfl, fun i v hv => ?_, hu.kp [] (.inr (Nat.le_refl _))⟩
  rw [addr_lit, Nat.zero_add]
  exact hu.blk.cell hv
theorem kinds_ret (hA : AscW w) : Ret Tryz.prog 106 [] w (fun v w' => v = .slice (some ⟨w.heap.size, 0, none⟩) 11 11 ∧ ReadS w' (some ⟨w.heap.size, 0, none⟩) (kindWords.map S) ∧ Kp [] w w') := by
  refine enter Tryz.call106 Tryz.func106 rfl rfl rfl rfl ?_
  (repeat first|refine zA ?_|refine zg ?_|refine zo rfl rfl trivial ?_|refine zn ?_)
  refine o_call (fieldsQ_ret hA) rfl rfl rfl ?_
  rintro v w1 ⟨rfl, hr, k1⟩
  (repeat first|refine zo rfl rfl trivial ?_|refine zn ?_|refine zr ?_)
  exact ⟨_, rfl, rfl, hr, k1⟩
/-- the place of a text in a list -/
def strIx (l : List (List UInt8)) (s : List UInt8) : Option Nat := (List.range l.length).find? fun i => decide (s = l.getD i [])
theorem strIx_mem {l : List (List UInt8)} {s : List UInt8} : (strIx l s).isSome = l.contains s := by
  unfold strIx
  rw [Bool.eq_iff_iff, List.find?_isSome, List.contains_iff_mem]
  constructor
  · rintro ⟨i, hi, h⟩
    have hi := List.mem_range.1 hi
    have h := of_decide_eq_true h
    rw [List.getD_eq_getElem?_getD, List.getElem?_eq_getElem hi] at h
    rw [h]; exact List.getElem_mem hi
  · intro h
    obtain ⟨i, hi, h⟩ := List.mem_iff_getElem.1 h
    exact ⟨i, List.mem_range.2 hi, by rw [List.getD_eq_getElem?_getD, List.getElem?_eq_getElem hi]; simp [h]⟩
theorem IndexStr_ret {ad : Option Addr} {cap : Nat} {l : List (List UInt8)} (hr : ReadS w ad (l.map S)) (hl : l.length ≤ 9223372036854775806) (s : List UInt8) : Ret Tryz.prog 141 [.slice ad l.length cap, S s] w (fun v w' => v = ixV (strIx l s) ∧ w' = w) := by
  refine enter Tryz.call141 Tryz.func141 rfl rfl rfl rfl ?_
  (repeat first|refine zA ?_|refine zB ?_|refine zg ?_|refine zo rfl rfl trivial ?_|refine zn ?_|refine zb ?_)
  refine r_loop (α := Nat) [0, 1, 7, 8] (fun i => [.slice ad l.length cap, S s, I l.length, I i]) (fun i W => i ≤ l.length ∧ W = w ∧ ∀ j, j < i → decide (s = l.getD j []) = false) (fun i => l.length - i) 0 rfl ⟨Nat.zero_le _, rfl, by omega⟩ ?_
  rintro i e W ⟨hi, rfl, hj⟩
  (repeat first|refine zA ?_|refine zD ?_|refine zg ?_|refine zo rfl rfl trivial ?_|refine zn ?_)
  refine r_if rfl (fun hc => ?_) (fun hc => ?_)
  · have hi2 : i < l.length := by omega
    obtain ⟨b, off, rfl, _, hcell⟩ := hr.at_ (by simp; omega)
    (repeat first|refine zA ?_|refine zC ?_|refine zg ?_|refine zo rfl rfl (by first|exact trivial|(simp only[AllP];omega)) ?_|refine zn ?_|refine zb ?_|refine zk ?_)
    refine o_loadc (v := S (l.getD i [])) rfl (hcell i _ (by rw [List.getElem?_map, List.getD_eq_getElem?_getD, List.getElem?_eq_getElem hi2]; rfl)) rfl rfl rfl rfl ?_
    (repeat first|refine zo rfl rfl trivial ?_|refine zn ?_)
    refine r_if rfl (fun h => ?_) (fun h => ?_)
    · (repeat first|refine zA ?_|refine zg ?_|refine zo rfl rfl trivial ?_|refine zn ?_|refine zr ?_)
      exact ⟨_, rfl, by unfold strIx; rw [find_some hi2 (decide_eq_true h) hj]; rfl, rfl⟩
    · (repeat first|refine zg ?_|refine zo rfl rfl (by first|exact trivial|(simp only[AllP];omega)) ?_|refine zn ?_|refine zk ?_)
      exact ⟨i + 1, rfl, ⟨by omega, rfl, fun j hj2 => by
        by_cases c : j = i
        · subst c; exact decide_eq_false h
        · exact hj j (by omega)⟩, by omega⟩
  · have : i = l.length := by omega
    subst this
    (repeat first|refine zA ?_|refine zg ?_|refine zo rfl rfl trivial ?_|refine zn ?_|refine ze rfl ?_|refine zr ?_)
    exact ⟨_, rfl, by unfold strIx; rw [find_none hj]; rfl, rfl⟩
theorem ContainsStr_ret {ad : Option Addr} {cap : Nat} {l : List (List UInt8)} (hr : ReadS w ad (l.map S)) (hl : l.length ≤ 9223372036854775806) (s : List UInt8) : Ret Tryz.prog 105 [.slice ad l.length cap, S s] w (fun v w' => v = .bool (l.contains s) ∧ w' = w) := by
  rw [← strIx_mem]
  refine enter Tryz.call105 Tryz.func105 rfl rfl rfl rfl ?_
  (repeat first|refine zA ?_|refine zg ?_|refine zo rfl rfl trivial ?_|refine zn ?_)
  refine o_call (IndexStr_ret hr hl s) rfl rfl rfl ?_
  rintro v w' ⟨rfl, rfl⟩
  cases strIx l s with
  | none =>
    unfold ixV
    (repeat first|refine zo rfl rfl trivial ?_|refine zn ?_|refine zr ?_)
    exact ⟨_, rfl, rfl, rfl⟩
  | some k =>
    unfold ixV
    (repeat first|refine zo rfl rfl trivial ?_|refine zn ?_|refine zr ?_)
    exact ⟨_, rfl, by show Value.bool (decide ((0 : Int) ≤ k)) = _; simp, rfl⟩
/-- may this byte stand at this place of a name? -/
def okN (s : List UInt8) (j : Nat) : Bool := letterB (s.getD j 0) || (decide (0 < j) && digitB (s.getD j 0))
theorem okN_all {s : List UInt8} (hs : s ≠ []) : ((s.head?.map letterB).getD false && s.all fun c => letterB c || digitB c) = decide (∀ j, j < s.length → okN s j = true) := by
  cases s with
  | nil => exact absurd rfl hs
  | cons c r =>
    rw [Bool.eq_iff_iff, decide_eq_true_eq]
    simp only [List.head?_cons, Option.map_some, Option.getD_some, Bool.and_eq_true, List.all_cons, Bool.or_eq_true]
    constructor
    · rintro ⟨h1, h2, h3⟩ j hj
      cases j with
      | zero => simp [okN, h1]
      | succ j =>
        have := List.all_eq_true.1 h3 (r.getD j 0) (by rw [List.getD_eq_getElem?_getD, List.getElem?_eq_getElem (by simpa using hj)]; exact List.getElem_mem _)
        simpa [okN] using this
    · intro h
      have h0 : letterB c = true := by simpa [okN] using h 0 (by simp)
      refine ⟨h0, .inl h0, List.all_eq_true.2 fun x hx => ?_⟩
      obtain ⟨j, hj, rfl⟩ := List.mem_iff_getElem.1 hx
      have := h (j + 1) (by simpa using hj)
      rw [okN, List.getD_cons_succ, List.getD_eq_getElem?_getD, List.getElem?_eq_getElem hj] at this
      simpa using this
set_option maxHeartbeats 6400000 in
theorem isName_ret (hA : AscW w) (s : List UInt8) (hl : s.length ≤ 9223372036854775806) : Ret Tryz.prog 59 [S s] w (fun v w' => v = .bool (qName s) ∧ Kp [] w w') := by
  have hq : qName s = (!s.isEmpty && decide (s.length ≤ 24) && decide (opOf s = 0) && !(kindWords.contains s) && ((s.head?.map letterB).getD false && s.all fun c => letterB c || digitB c)) := by unfold qName; rw [Bool.and_assoc]
  refine enter Tryz.call59 Tryz.func59 rfl rfl rfl rfl ?_
  refine r_seq ?_
  refine zg ?_
  (repeat first|refine zo rfl rfl trivial ?_|refine zn ?_)
  refine r_seq ?_
  refine r_seq ?_
  refine r_bool [0] [S s] 20 (decide (s = []) || decide (24 < s.length) || decide (opOf s ≠ 0) || kindWords.contains s) (fun W => Kp [] w W) ?_ ?_
  · (repeat first|refine zg ?_|refine zo rfl rfl trivial ?_)
    refine o_split _ _ rfl rfl rfl (fun h1 => ?_) (fun h1 => ?_)
    · (repeat first|refine zo rfl rfl trivial ?_|refine zn ?_|refine zT rfl rfl rfl ?_)
      exact ⟨rfl, ⟨_, rfl, by rw [h1]; rfl⟩, Kp.refl _ _⟩
    (repeat refine zo rfl rfl trivial ?_)
    refine o_split _ _ rfl rfl rfl (fun h2 => ?_) (fun h2 => ?_)
    · (repeat first|refine zo rfl rfl trivial ?_|refine zn ?_|refine zT rfl rfl rfl ?_)
      exact ⟨rfl, ⟨_, rfl, by have : 24 < s.length := by have h2 : (24 : Int) < s.length := of_decide_eq_true h2; omega
                              simp [this]⟩, Kp.refl _ _⟩
    (repeat refine zo rfl rfl trivial ?_)
    refine o_call (operation_ret s) rfl rfl rfl ?_
    rintro v w1 ⟨rfl, k1⟩
    (repeat refine zo rfl rfl trivial ?_)
    refine o_split _ _ rfl rfl rfl (fun h3 => ?_) (fun h3 => ?_)
    · (repeat first|refine zo rfl rfl trivial ?_|refine zn ?_)
      exact ⟨rfl, ⟨_, rfl, by have : opOf s ≠ 0 := by simpa using h3
                              simp [this]⟩, k1⟩
    refine o_call (kinds_ret (hA.kp k1 (by simp))) rfl rfl rfl ?_
    rintro v w2 ⟨rfl, hr, k2⟩
    (repeat refine zo rfl rfl trivial ?_)
    refine o_call (ContainsStr_ret (l := kindWords) hr (by decide) s) rfl rfl rfl ?_
    rintro v w3 ⟨rfl, rfl⟩
    (repeat first|refine zo rfl rfl trivial ?_|refine zn ?_)
    refine ⟨rfl, ⟨_, rfl, ?_⟩, k1.trans k2⟩
    have e1 : decide (s = []) = false := h1
    have e2 : ¬ 24 < s.length := by have h2 : ¬ (24 : Int) < s.length := of_decide_eq_false h2; omega
    have e3 : opOf s = 0 := by simpa using h3
    simp [e2, e3]
    intro h
    rw [h] at e1; cases e1
  rintro e1 w1 k1
  refine r_cond rfl (fun hb => ?_) (fun hb => ?_)
  · (repeat first|refine zA ?_|refine zg ?_|refine zo rfl rfl trivial ?_|refine zn ?_|refine zr ?_)
    refine ⟨_, rfl, ?_, k1⟩
    rw [hq]
    rcases Bool.or_eq_true _ _ ▸ hb with hb | hb
    · rcases Bool.or_eq_true _ _ ▸ hb with hb | hb
      · rcases Bool.or_eq_true _ _ ▸ hb with hb | hb
        · have hb := of_decide_eq_true hb
          rw [hb]; rfl
        · have hb := of_decide_eq_true hb
          rw [decide_eq_false (show ¬ s.length ≤ 24 by omega)]; simp
      · have hb := of_decide_eq_true hb
        rw [decide_eq_false hb]; simp
    · rw [hb]; simp
  · simp only [Bool.or_eq_false_iff, decide_eq_false_iff_not, Decidable.not_not] at hb
    obtain ⟨⟨⟨b1, b2⟩, b3⟩, b4⟩ := hb
    rw [show (!s.isEmpty && decide (s.length ≤ 24) && decide (opOf s = 0) && !(kindWords.contains s)) = true by
      rw [b4, decide_eq_true b3, decide_eq_true (show s.length ≤ 24 by omega)]
      cases s with
      | nil => exact absurd rfl b1
      | cons c r => rfl, Bool.true_and, okN_all b1] at hq
    (repeat first|refine zA ?_|refine zB ?_|refine zg ?_|refine zo rfl rfl trivial ?_|refine zn ?_|refine zb ?_|refine zk ?_)
    refine r_loop (α := Nat) [0, 22, 23] (fun i => [S s, I s.length, I i]) (fun i W => i ≤ s.length ∧ Kp [] w W ∧ ∀ j, j < i → okN s j = true) (fun i => s.length - i) 0 rfl ⟨Nat.zero_le _, k1, by omega⟩ ?_
    rintro i e W ⟨hi, kW, hj⟩
    (repeat first|refine zA ?_|refine zD ?_|refine zg ?_|refine zo rfl rfl trivial ?_|refine zn ?_)
    refine r_if rfl (fun hc => ?_) (fun hc => ?_)
    · have hi2 : i < s.length := by omega
      refine zk ?_
      refine r_seq ?_
      refine r_block ?_
      refine r_seq ?_
      refine zg ?_
      (repeat first|refine zo rfl rfl trivial ?_|refine zn ?_)
      refine r_seq ?_
      refine r_bool [0, 22, 23] [S s, I s.length, I i] 52 (!okN s i) (fun W' => W' = W) ?_ ?_
      · refine zg ?_
        unfold okN
        rw [letter_iff, digit_iff]
        generalize hcc : s.getD i 0 = c
        have hcc' : s.getD (i : Int).toNat 0 = c := by rw [toNat_nat]; exact hcc
        repeat' first|refine zo rfl rfl (by first|exact trivial|(simp only[AllP];omega)|(simp(discharger:=omega)only[AllP,cA,cB];omega)|(simp only[AllP,cC,cD,cE,cF,cG];omega)) ?_|refine zn ?_|refine zT rfl rfl rfl ?_|refine zU rfl rfl rfl ?_|refine zV rfl rfl rfl ?_|refine o_split _ _ rfl rfl rfl (fun _ => ?_) (fun _ => ?_)
        all_goals (refine ⟨rfl, ⟨_, rfl, ?_⟩, rfl⟩; simp_all <;> omega)
      rintro e2 W' rfl
      refine r_cond rfl (fun h => ?_) (fun h => ?_)
      · (repeat first|refine zA ?_|refine zg ?_|refine zo rfl rfl trivial ?_|refine zn ?_|refine zr ?_)
        refine ⟨_, rfl, ?_, kW⟩
        rw [hq, decide_eq_false (fun hh => by rw [hh i hi2] at h; cases h)]
      · (repeat first|refine zg ?_|refine zo rfl rfl (by first|exact trivial|(simp only[AllP];omega)) ?_|refine zn ?_|refine zk ?_)
        exact ⟨i + 1, rfl, ⟨by omega, kW, fun j hj2 => by
          by_cases c : j = i
          · subst c; simpa using h
          · exact hj j (by omega)⟩, by omega⟩
    · have : i = s.length := by omega
      subst this
      (repeat first|refine zA ?_|refine zg ?_|refine zo rfl rfl trivial ?_|refine zn ?_|refine ze rfl ?_|refine zr ?_)
      exact ⟨_, rfl, by rw [hq, decide_eq_true hj], kW⟩
end Go.Vc
/- Query: trees in memory; made. -/
namespace Go.Vc
open Go Go.Proofs
set_option maxRecDepth 10000
variable {w : World}
/-- the shape of a tree that was read: none -/
def zsh (_ : Int) : List Value := [S [], I 0, I 0, I 0, .bool false, .bool false]
abbrev TBlk (sh : Int → List Value) (w : World) (p : Nat) (o sz m : Int) (s : List UInt8) (below : Value) : Prop := Blk w p ([I o, I sz, I m, S s] ++ sh o ++ [below]) 121
/-- a tree in memory, its blocks from lo on -/
def TreeAt (sh : Int → List Value) (lo : Nat) (w : World) : QT → Nat → Prop
  | .n0 o m s, p => lo ≤ p ∧ ∃ ad cap, TBlk sh w p o 1 m s (.slice ad 0 cap)
  | .n1 o m s a, p => lo ≤ p ∧ ∃ ad cap q, TBlk sh w p o (1 + a.size : Nat) m s (.slice ad 1 cap) ∧ ReadS w ad [ptr q] ∧ (∀ b ∈ blkOf ad, lo ≤ b) ∧ TreeAt sh lo w a q
  | .n2 o m s a b, p => lo ≤ p ∧ ∃ ad cap q r, TBlk sh w p o (1 + a.size + b.size : Nat) m s (.slice ad 2 cap) ∧ ReadS w ad [ptr q, ptr r] ∧ (∀ b ∈ blkOf ad, lo ≤ b) ∧ TreeAt sh lo w a q ∧ TreeAt sh lo w b r
variable {sh : Int → List Value} {lo : Nat}
theorem TreeAt.kp {w' : World} {F : List Nat} (hk : Kp F w w') (hF : ∀ b, b ∈ F → b < lo) : ∀ {t : QT} {p : Nat}, TreeAt sh lo w t p → TreeAt sh lo w' t p
  | .n0 .., p, ⟨h1, ad, cap, h2⟩ => ⟨h1, ad, cap, hk.blk (fun h => by have := hF p h; omega) h2⟩
  | .n1 .., p, ⟨h1, ad, cap, q, h2, h3, h4, h5⟩ => ⟨h1, ad, cap, q, hk.blk (fun h => by have := hF p h; omega) h2, h3.kp hk (fun b hb h => by have := hF b h; have := h4 b hb; omega), h4, h5.kp hk hF⟩
  | .n2 .., p, ⟨h1, ad, cap, q, r, h2, h3, h4, h5, h6⟩ => ⟨h1, ad, cap, q, r, hk.blk (fun h => by have := hF p h; omega) h2, h3.kp hk (fun b hb h => by have := hF b h; have := h4 b hb; omega), h4, h5.kp hk hF, h6.kp hk hF⟩
theorem TreeAt.lo_le {lo' : Nat} (hl : lo' ≤ lo) : ∀ {t : QT} {p : Nat}, TreeAt sh lo w t p → TreeAt sh lo' w t p
  | .n0 .., p, ⟨h1, h⟩ => ⟨by omega, h⟩
  | .n1 .., p, ⟨h1, ad, cap, q, h2, h3, h4, h5⟩ => ⟨by omega, ad, cap, q, h2, h3, fun b hb => by have := h4 b hb; omega, h5.lo_le hl⟩
  | .n2 .., p, ⟨h1, ad, cap, q, r, h2, h3, h4, h5, h6⟩ => ⟨by omega, ad, cap, q, r, h2, h3, fun b hb => by have := h4 b hb; omega, h5.lo_le hl, h6.lo_le hl⟩
/-- a node's block: its size -/
theorem TreeAt.blk {t : QT} {p : Nat} (h : TreeAt sh lo w t p) : ∃ o m s below, TBlk sh w p o t.size m s below ∧ lo ≤ p ∧ o = t.op := by
  cases t with
  | n0 o m s => obtain ⟨h1, ad, cap, h2⟩ := h; exact ⟨_, _, _, _, h2, h1, rfl⟩
  | n1 o m s a => obtain ⟨h1, ad, cap, q, h2, _⟩ := h; exact ⟨_, _, _, _, h2, h1, rfl⟩
  | n2 o m s a b => obtain ⟨h1, ad, cap, q, r, h2, _⟩ := h; exact ⟨_, _, _, _, h2, h1, rfl⟩
def sumS : List (Nat × QT) → Nat
  | [] => 0
  | x :: r => x.2.size + sumS r
theorem sumS_take (l : List (Nat × QT)) : ∀ i, i < l.length → sumS (l.take (i + 1)) = sumS (l.take i) + ((l[i]?).map fun x => x.2.size).getD 0 := by
  induction l with
  | nil => intro i hi; simp at hi
  | cons x r ih =>
    intro i hi
    cases i with
    | zero => simp [sumS]
    | succ i =>
      have := ih i (by simpa using hi)
      simp only [List.take_succ_cons, sumS, List.getElem?_cons_succ]
      omega
theorem sumS_le (l : List (Nat × QT)) (i : Nat) : sumS (l.take i) ≤ sumS l := by
  induction l generalizing i with
  | nil => simp
  | cons x r ih =>
    cases i with
    | zero => simp [sumS]
    | succ i => have := ih i; simp only [List.take_succ_cons, sumS]; omega
set_option maxHeartbeats 3200000 in
theorem made_ret {ad : Option Addr} {cap : Nat} (op num : Int) (name : List UInt8) (kids : List (Nat × QT)) (hr : ReadS w ad (kids.map fun x => ptr x.1)) (hk : ∀ x ∈ kids, ∃ sh lo, TreeAt sh lo w x.2 x.1) (hs : sumS kids ≤ 4611686018427387904) (hkl : kids.length ≤ 2) :
    Ret Tryz.prog 122 [I op, S name, I num, .slice ad kids.length cap] w (fun v w' => ∃ p, v = ptr p ∧ w.heap.size ≤ p ∧ TBlk zsh w' p op (1 + sumS kids : Nat) num name (.slice ad kids.length cap) ∧ Kp [] w w') := by
  refine enter Tryz.call122 Tryz.func122 rfl rfl rfl rfl ?_
  (repeat first|refine zA ?_|refine zg ?_|refine zo rfl rfl trivial ?_|refine zn ?_)
  refine o_build [I op, I 1, I num, S name] rfl rfl rfl rfl rfl rfl rfl ?_
  (repeat refine zo rfl rfl trivial ?_)
  refine o_build [I op, I 1, I num, S name, S [], I 0, I 0, I 0, .bool false, .bool false, .slice ad kids.length cap] rfl rfl rfl rfl rfl rfl rfl ?_
  refine o_box rfl rfl rfl ?_
  intro p w1 hp hu
  have k1 : Kp [] w w1 := hu.kp [] (.inr (by omega))
  have hB1 : TBlk zsh w1 p op 1 num name (.slice ad kids.length cap) := hu.blk
  (repeat first|refine zA ?_|refine zB ?_|refine zg ?_|refine zo rfl rfl trivial ?_|refine zn ?_|refine zb ?_)
  refine r_loop (α := Nat) [9, 19, 20, 21] (fun i => [ptr p, .slice ad kids.length cap, I kids.length, I i]) (fun i W => i ≤ kids.length ∧ Kp [] w W ∧ TBlk zsh W p op (1 + sumS (kids.take i) : Nat) num name (.slice ad kids.length cap)) (fun i => kids.length - i) 0 rfl ⟨Nat.zero_le _, k1, hB1⟩ ?_
  rintro i e W ⟨hi, kW, hB⟩
  (repeat first|refine zA ?_|refine zD ?_|refine zg ?_|refine zo rfl rfl trivial ?_|refine zn ?_)
  refine r_if rfl (fun hc => ?_) (fun hc => ?_)
  · have hi2 : i < kids.length := by omega
    obtain ⟨x, hx⟩ : ∃ x, kids[i]? = some x := ⟨_, List.getElem?_eq_getElem hi2⟩
    obtain ⟨b, off, rfl, _, hcell⟩ := (hr.kp kW (by simp)).at_ (by simp; omega)
    obtain ⟨sh, lo, hT⟩ := hk x (List.mem_of_getElem? hx)
    obtain ⟨o, m, s, below, hBx, _, _⟩ := (hT.blk)
    have hst := sumS_take kids i hi2
    have hsl := sumS_le kids (i + 1)
    rw [hx] at hst
    simp only [Option.map_some, Option.getD_some] at hst
    have hxB := kW.blk (by simp) hBx
    refine zk ?_
    refine r_seq ?_
    refine r_block ?_
    refine r_seq ?_
    refine zg ?_
    (repeat refine zo rfl rfl (by first|exact trivial|(simp only[AllP];omega)) ?_)
    refine o_loadc (v := ptr x.1) rfl (hcell i _ (by rw [List.getElem?_map, hx]; rfl)) rfl rfl rfl rfl ?_
    (repeat first|refine zo rfl rfl trivial ?_|refine zn ?_)
    refine r_lastL follows_mixed rfl (by kernel_rfl) (by kernel_rfl) ?_
    (repeat first|refine yo rfl rfl trivial ?_|refine q_load rfl (fun _ hs => (Sm.blk hs hB).cell rfl) rfl rfl rfl rfl ?_)
    refine q_load (v := I x.2.size) rfl (fun _ hs => (Sm.blk hs hxB).cell rfl) rfl rfl rfl rfl ?_
    (repeat first|refine yo rfl rfl (by first|exact trivial|(simp only[AllP];omega)) ?_|refine yn ?_)
    intro w' hs
    have hB' := hs.blk hB
    refine o_store (off := 1) rfl hB' (by simp [zsh]) rfl rfl rfl rfl rfl rfl ?_
    intro w3 hu3
    (repeat first|refine zg ?_|refine zo rfl rfl (by first|exact trivial|(simp only[AllP];omega)) ?_|refine zn ?_)
    have s1 := hu.lt
    refine ⟨i + 1, rfl, ⟨by omega, (kW.trans (hs.kp [])).since (hu3.kp [p] (.inl (by simp))) (by simp; omega), ?_⟩, by omega⟩
    have h3 := hu3.blk
    have e1 : (((1 + sumS (kids.take i) : Nat) : Int) + (x.2.size : Int)) = ((1 + sumS (kids.take (i + 1)) : Nat) : Int) := by omega
    rw [e1] at h3
    exact h3
  · have : i = kids.length := by omega
    subst this
    (repeat first|refine zA ?_|refine zg ?_|refine zo rfl rfl trivial ?_|refine zn ?_|refine ze rfl ?_|refine zr ?_)
    exact ⟨_, rfl, p, rfl, by omega, by rw [List.take_length] at hB; exact hB, kW⟩
end Go.Vc
/- Query: what the parser's model uses up. -/
namespace Go.Vc
theorem adv_len {s s' : TS} (h : adv s = .ok s') : s'.len ≤ s.len - 1 ∧ (s.len = 0 → s' = s) := by
  unfold adv at h
  split at h
  · cases h
  · cases h; simp [TS.len]
  · rename_i h1 h2
    cases h
    cases s with
    | tok t r => cases r <;> first | exact absurd rfl (h1 _ _) | exact absurd rfl (h2 _ _)
    | stop j => simp [TS.len]
    | bad j => simp [TS.len]
theorem is_len {s : TS} {word : List UInt8} (h : s.is word = true) : 1 ≤ s.len := by
  cases s with
  | tok t r => simp [TS.len]
  | stop j => cases h
  | bad j => cases h
theorem mustT_len {s s' : TS} {word : List UInt8} (h : mustT s word = .ok s') : s'.len + 1 ≤ s.len := by
  unfold mustT at h
  split at h
  · rename_i h1
    have := is_len h1
    have := (adv_len h).1
    omega
  · cases h
theorem rowOp_len {lvl : Nat} {s : TS} {op : Int} (h : rowOp lvl s = some op) : 1 ≤ s.len := by
  unfold rowOp at h
  split at h
  · split at h
    · rename_i h1; exact is_len h1
    · cases h
  · split at h
    · rename_i h1; exact is_len h1
    · cases h
  · split at h
    · rename_i h1; exact is_len h1
    · split at h
      · rename_i h1; exact is_len h1
      · cases h
  · split at h
    · rename_i h1; exact is_len h1
    · cases h
theorem bind_ok {α β ε : Type} {x : Except ε α} {f : α → Except ε β} {b : β} (h : (x >>= f) = .ok b) : ∃ a, x = .ok a ∧ f a = .ok b := by
  cases x with
  | error e => cases h
  | ok a => exact ⟨a, rfl, h⟩
theorem cmpOp_len {s : TS} {k : Nat} (h : cmpOp s = some k) : 1 ≤ s.len := by
  unfold cmpOp at h
  have := List.find?_some h
  exact is_len this
/-- what is read takes a token for each node -/
theorem rd_size : ∀ n : Nat, (∀ lvl s t s', rd n lvl s = .ok (t, s') → t.size + s'.len ≤ s.len) ∧ (∀ lvl u s t s', rw n lvl u s = .ok (t, s') → t.size + s'.len ≤ u.size + s.len) ∧ (∀ op s t s', 1 ≤ s.len → wd n op s = .ok (t, s') → t.size + s'.len ≤ s.len)
  | 0 => ⟨fun _ _ _ _ h => by simp [rd] at h, fun _ _ _ _ _ h => by simp [rw] at h, fun _ _ _ _ _ h => by simp [wd] at h⟩
  | n + 1 => by
    obtain ⟨ih1, ih2, ih3⟩ := rd_size n
    have hrow : ∀ lvl s t s', (do let (t, s) ← rd n (subLvl lvl) s; rw n lvl t s) = (.ok (t, s') : PR) → t.size + s'.len ≤ s.len := by
      intro lvl s t s' h
      obtain ⟨⟨t1, s1⟩, h1, h2⟩ := bind_ok h
      have := ih1 _ _ _ _ h1
      have := ih2 _ _ _ _ _ h2
      omega
    refine ⟨fun lvl s t s' h => ?_, fun lvl u s t s' h => ?_, fun op s t s' hs h => ?_⟩
    · unfold rd at h
      split at h
      · split at h
        · rename_i h0
          have h00 := is_len h0
          obtain ⟨s1, h1, h⟩ := bind_ok h
          obtain ⟨⟨t1, s2⟩, h2, h⟩ := bind_ok h
          cases h
          have := (adv_len h1).1
          have := ih1 _ _ _ _ h2
          simp only [QT.size]; omega
        · obtain ⟨⟨t1, s1⟩, h1, h⟩ := bind_ok h
          have g1 := ih1 _ _ _ _ h1
          dsimp only at h
          split at h
          · rename_i op hop
            have h00 := cmpOp_len hop
            obtain ⟨s2, h2, h⟩ := bind_ok h
            obtain ⟨⟨t2, s3⟩, h3, h⟩ := bind_ok h
            cases h
            have := (adv_len h2).1
            have := ih1 _ _ _ _ h3
            simp only [QT.size]; omega
          · cases h; exact g1
      · exact hrow _ _ _ _ h
      · exact hrow _ _ _ _ h
      · exact hrow _ _ _ _ h
      · exact hrow _ _ _ _ h
      · split at h
        · rename_i t0 r
          have hl : 1 ≤ (TS.tok t0 r).len := by simp [TS.len]
          split at h
          · obtain ⟨s1, h1, h⟩ := bind_ok h
            cases h
            have := (adv_len h1).1
            simp only [QT.size]; omega
          · split at h
            · obtain ⟨s1, h1, h⟩ := bind_ok h
              obtain ⟨⟨t2, s2⟩, h2, h⟩ := bind_ok h
              cases h
              have := (adv_len h1).1
              have := ih1 _ _ _ _ h2
              simp only [QT.size]; omega
            · split at h
              · obtain ⟨s1, h1, h⟩ := bind_ok h
                obtain ⟨⟨t2, s2⟩, h2, h⟩ := bind_ok h
                obtain ⟨s3, h3, h⟩ := bind_ok h
                cases h
                have := (adv_len h1).1
                have := ih1 _ _ _ _ h2
                have := mustT_len h3
                omega
              · split at h
                · obtain ⟨s1, h1, h⟩ := bind_ok h
                  cases h
                  have := (adv_len h1).1
                  simp only [QT.size]; omega
                · split at h
                  · exact ih3 _ _ _ _ hl h
                  · split at h
                    · obtain ⟨s1, h1, h⟩ := bind_ok h
                      cases h
                      have := (adv_len h1).1
                      simp only [QT.size]; omega
                    · cases h
        · cases h
    · unfold rw at h
      split at h
      · cases h; exact Nat.le_refl _
      · rename_i op hop
        have h00 := rowOp_len hop
        obtain ⟨s1, h1, h⟩ := bind_ok h
        obtain ⟨⟨t2, s2⟩, h2, h⟩ := bind_ok h
        have := (adv_len h1).1
        have := ih1 _ _ _ _ h2
        have := ih2 _ _ _ _ _ h
        simp only [QT.size] at this; omega
    · unfold wd at h
      split at h
      · obtain ⟨s1, h1, h⟩ := bind_ok h
        cases h
        have := (adv_len h1).1
        simp only [QT.size]; omega
      · split at h
        · obtain ⟨s1, h1, h⟩ := bind_ok h
          have := (adv_len h1).1
          split at h
          · rename_i t0 r
            split at h
            · cases h
            · obtain ⟨s2, h2, h⟩ := bind_ok h
              obtain ⟨s3, h3, h⟩ := bind_ok h
              obtain ⟨⟨t4, s4⟩, h4, h⟩ := bind_ok h
              cases h
              have := (adv_len h2).1
              have := mustT_len h3
              have := ih1 _ _ _ _ h4
              simp only [QT.size]; omega
          · cases h
        · split at h
          · obtain ⟨s1, h1, h⟩ := bind_ok h
            obtain ⟨s2, h2, h⟩ := bind_ok h
            obtain ⟨⟨t3, s3⟩, h3, h⟩ := bind_ok h
            have := (adv_len h1).1
            have := mustT_len h2
            have := ih1 _ _ _ _ h3
            dsimp only at h
            split at h
            · obtain ⟨s4, h4, h⟩ := bind_ok h
              cases h
              have := mustT_len h4
              simp only [QT.size]; omega
            · obtain ⟨s4, h4, h⟩ := bind_ok h
              obtain ⟨⟨t5, s5⟩, h5, h⟩ := bind_ok h
              dsimp only at h
              obtain ⟨s6, h6, h⟩ := bind_ok h
              cases h
              have := mustT_len h4
              have := ih1 _ _ _ _ h5
              have := mustT_len h6
              simp only [QT.size]; omega
          · cases h
end Go.Vc
