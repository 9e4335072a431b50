/- Query: what is meant, in plain Lean (no program in sight). -/
import Derived.Test.YtkgngbpkiklckaaGreatDoorQClQRaces9
import Derived.Test.YtkgngbpkiklckaaGreatDoorQClQRaces5
import Derived.Test.YtkgngbpkiklckaaGreatDoorQClQRaces6
namespace Go.Vc
/-- what questions are asked of -/
structure QW where
  n : Nat
  part : Int → Int → Int
  bef : Int → Int → Bool
  race : Int → Int → Bool
def trI (b : Bool) : Int := if b then 1 else 0
/-- what two numbers make -/
def pairV (W : QW) (op x y : Int) : Int :=
  if op = 5 then IntKind.i64.wrap (x + y) else if op = 6 then IntKind.i64.wrap (x - y) else if op = 7 then IntKind.i64.wrap (x * y)
  else if op = 11 then trI (decide (x < y)) else if op = 12 then trI (decide (x ≤ y)) else if op = 13 then trI (decide (x = y))
  else if op = 14 then trI (!decide (x = y)) else if op = 15 then trI (decide (y ≤ x)) else if op = 16 then trI (decide (y < x))
  else if op = 20 then trI (W.bef x y) else trI (W.race x y)
/-- what one number makes -/
def oneV (W : QW) (op x : Int) : Int :=
  if op = 4 then IntKind.i64.wrap (0 - x) else if op = 17 then IntKind.i64.wrap (1 - x) else W.part op x
/-- what binds, from these events on -/
def bindL (op : Int) (f : Int → Int × Nat) : List Int → Int → Int × Nat
  | [], c => (if op = 23 then 1 else if op = 25 ∨ op = 26 then -1 else c, 0)
  | i :: r, c =>
    if op = 23 ∧ (f i).1 ≠ 1 then (0, (f i).2)
    else if op = 22 ∧ (f i).1 = 1 then (1, (f i).2)
    else if (op = 25 ∨ op = 26) ∧ (f i).1 = 1 then (i, (f i).2)
    else ((bindL op f r (c + trI (decide ((f i).1 = 1)))).1, (f i).2 + (bindL op f r (c + trI (decide ((f i).1 = 1)))).2)
def evs (W : QW) (op : Int) : List Int := if op = 26 then ((List.range W.n).map fun (i : Nat) => ((W.n - 1 - i : Nat) : Int)) else (List.range W.n).map fun (i : Nat) => (i : Int)
def setV (σ : List UInt8 → Int) (name : List UInt8) (i : Int) : List UInt8 → Int := fun s => if s = name then i else σ s
/-- a node's answer, and how many steps it takes -/
def evq (W : QW) : QT → (List UInt8 → Int) → Int × Nat
  | .n0 op num name, σ => (if op = 1 then num else if op = 2 then σ name else W.n, 1)
  | .n1 op _ name a, σ =>
    if 22 ≤ op then ((bindL op (fun i => evq W a (setV σ name i)) (evs W op) 0).1, 1 + (bindL op (fun i => evq W a (setV σ name i)) (evs W op) 0).2)
    else (oneV W op (evq W a σ).1, 1 + (evq W a σ).2)
  | .n2 op _ _ a b, σ =>
    if op = 18 then (if (evq W a σ).1 = 1 then (trI (decide ((evq W b σ).1 = 1)), 1 + (evq W a σ).2 + (evq W b σ).2) else (0, 1 + (evq W a σ).2))
    else if op = 19 then (if (evq W a σ).1 = 1 then (1, 1 + (evq W a σ).2) else (trI (decide ((evq W b σ).1 = 1)), 1 + (evq W a σ).2 + (evq W b σ).2))
    else (pairV W op (evq W a σ).1 (evq W b σ).1, 1 + (evq W a σ).2 + (evq W b σ).2)
/-! ### A tree's sorts -/
def ofO (op : Nat) : Int := if op ≤ 3 then 0 else if op = 17 ∨ op = 18 ∨ op = 19 ∨ 22 ≤ op then 2 else 1
def answerO (op : Nat) : Int := if op = 0 then 0 else if op ≤ 10 ∨ 24 ≤ op then 1 else 2
/-- is a node right by itself? -/
def ownQ (op num : Int) (name : List UInt8) : Bool :=
  decide (1 ≤ op) && decide (op ≤ 26) && decide (0 ≤ num) && (decide (num = 0) || decide (op = 1)) &&
    (if bindsO op.toNat || decide (op = 2) then qName name else decide (name = []))
/-- a tree off its nodes: what is left of them -/
def growF : Nat → Nat → List QN → Option (QT × List QN)
  | 0, _, _ => none
  | _ + 1, _, [] => none
  | f + 1, above, x :: r =>
    if 64 < above then none
    else if ownQ x.op x.num x.name = false then none
    else if kidsO x.op.toNat = 0 then (if x.size = 1 then some (.n0 x.op x.num x.name, r) else none)
    else match growF f (above + 1) r with
      | none => none
      | some (a, r1) =>
        if kidsO x.op.toNat = 1 then (if x.size = 1 + a.size then some (.n1 x.op x.num x.name a, r1) else none)
        else match growF f (above + 1) r1 with
          | none => none
          | some (b, r2) => if x.size = 1 + a.size + b.size then some (.n2 x.op x.num x.name a b, r2) else none
/-- the tree of a question -/
def wholeM (l : List QN) : Option QT :=
  match growF 66 0 l with
  | some (t, []) => some t
  | _ => none
/-- are all names bound? -/
def namedQ : QT → List (List UInt8) → Bool
  | .n0 op _ name, l => if op = 2 then l.contains name else true
  | .n1 op _ name a, l => namedQ a (if 22 ≤ op then l ++ [name] else l)
  | .n2 _ _ _ a b, l => namedQ a l && namedQ b l
/-- have all kids the sort that is asked for? -/
def senseQ : QT → Bool
  | .n0 .. => true
  | .n1 op _ _ a => decide (answerO a.op.toNat = ofO op.toNat) && senseQ a
  | .n2 op _ _ a b => (decide (answerO a.op.toNat = ofO op.toNat) && senseQ a) && (decide (answerO b.op.toNat = ofO op.toNat) && senseQ b)
/-- P30.2: the tree, or why not -/
def lookedM (l : List QN) : Except Int QT :=
  match wholeM l with
  | none => .error 305
  | some t => if namedQ t [] = false then .error 303 else if senseQ t = false then .error 304 else .ok t
end Go.Vc
/- Query: how tokens follow one another. -/
namespace Go.Vc
theorem tok1_len {i : Nat} {c : UInt8} {r : List UInt8} {t : Tok} (h : tok1 i (c :: r) = some t) : 1 ≤ t.text.length ∧ t.text.length ≤ r.length + 1 ∧ t.at_ = i ∧ t.text = (c :: r).take t.text.length := by
  simp only [tok1] at h
  split at h
  · cases h
    have := (List.takeWhile_prefix (p := fun c => letterB c || digitB c) (l := r))
    refine ⟨by simp, by simp; exact this.length_le, rfl, ?_⟩
    simp only [List.length_cons, List.take_succ_cons, List.cons.injEq, true_and]
    exact (List.prefix_iff_eq_take.1 this)
  · split at h
    · simp only [Option.map_eq_some_iff] at h
      obtain ⟨n, _, rfl⟩ := h
      have := (List.takeWhile_prefix (p := digitB) (l := r))
      refine ⟨by simp, by simp; exact this.length_le, rfl, ?_⟩
      simp only [List.length_cons, List.take_succ_cons, List.cons.injEq, true_and]
      exact (List.prefix_iff_eq_take.1 this)
    · split at h
      · cases h
      · rename_i hm
        cases h
        refine ⟨?_, by simp [List.length_take]; omega, rfl, by simp⟩
        simp only [List.length_take, List.length_cons]; omega
theorem skipB_le (l : List UInt8) : skipB l ≤ l.length := (List.takeWhile_prefix (p := blankB) (l := l)).length_le
theorem lexF_fuel : ∀ (f f' i : Nat) (l : List UInt8), l.length < f → l.length < f' → lexF f i l = lexF f' i l
  | 0, _, _, _, h, _ => by omega
  | f + 1, 0, _, _, _, h => by omega
  | f + 1, f' + 1, i, l, h, h' => by
    unfold lexF
    split
    · rfl
    · rename_i c r hd
      have hl : r.length + 1 + skipB l = l.length := by
        have h1 := congrArg List.length hd
        have h2 := skipB_le l
        simp at h1; omega
      split
      · rfl
      · rename_i t ht
        obtain ⟨h1, h2, _, _⟩ := tok1_len ht
        rw [lexF_fuel f f' _ _ (by simp; omega) (by simp; omega)]
/-- one token of a text -/
theorem lex_step {txt : List UInt8} {i : Nat} (hi : i ≤ txt.length) : lex txt i = match txt.drop (i + skipB (txt.drop i)) with
    | [] => .stop (i + skipB (txt.drop i))
    | c :: r => match tok1 (i + skipB (txt.drop i)) (c :: r) with
      | none => .bad (i + skipB (txt.drop i))
      | some t => .tok t (lex txt (i + skipB (txt.drop i) + t.text.length)) := by
  unfold lex
  rw [show txt.length + 1 - i = (txt.length - i) + 1 by omega, lexF, List.drop_drop]
  cases hd : txt.drop (i + skipB (txt.drop i)) with
  | nil => rfl
  | cons c r =>
    have hl : i + skipB (txt.drop i) + (r.length + 1) = txt.length := by
      have h1 := congrArg List.length hd
      have h2 := skipB_le (txt.drop i)
      simp only [List.length_drop, List.length_cons] at h1 h2; omega
    dsimp only
    cases ht : tok1 (i + skipB (txt.drop i)) (c :: r) with
    | none => rfl
    | some t =>
      dsimp only
      obtain ⟨h1, h2, _, _⟩ := tok1_len ht
      rw [← hd, List.drop_drop]
      congr 1
      exact lexF_fuel _ _ _ _ (by simp only [List.length_drop]; omega) (by simp only [List.length_drop]; omega)
/-- where a token ends -/
theorem lex_tok {txt : List UInt8} {i : Nat} (hi : i ≤ txt.length) {t : Tok} {r : TS} (h : lex txt i = .tok t r) : i ≤ t.at_ ∧ t.at_ + t.text.length ≤ txt.length ∧ 1 ≤ t.text.length ∧ r = lex txt (t.at_ + t.text.length) ∧ t.text = (txt.drop t.at_).take t.text.length := by
  rw [lex_step hi] at h
  split at h
  · cases h
  · rename_i c r' hd
    split at h
    · cases h
    · rename_i u hu
      injection h with h1 h2
      subst h1
      obtain ⟨g1, g2, g3, g4⟩ := tok1_len hu
      have hl : i + skipB (txt.drop i) + (r'.length + 1) = txt.length := by
        have h1 := congrArg List.length hd
        have h2 := skipB_le (txt.drop i)
        simp at h1 h2; omega
      rw [g3, hd]
      exact ⟨by omega, by omega, g1, h2.symm, g4⟩
theorem lex_len {txt : List UInt8} : ∀ (n i : Nat), i ≤ txt.length → txt.length - i ≤ n → (lex txt i).len ≤ txt.length - i
  | 0, i, hi, hn => by
    rw [lex_step hi, show i = txt.length by omega, List.drop_length]
    simp [skipB, TS.len]
  | n + 1, i, hi, hn => by
    cases h : lex txt i with
    | stop j => simp [TS.len]
    | bad j => simp [TS.len]
    | tok t r =>
      obtain ⟨h1, h2, h3, h4, _⟩ := lex_tok hi h
      subst h4
      have := lex_len n (t.at_ + t.text.length) h2 (by omega)
      simp only [TS.len]; omega
end Go.Vc
/- Query: the parser's first steps: letter, digit, refuse, off. -/
namespace Go.Vc
open Go Go.Proofs
set_option maxRecDepth 10000
variable {w : World}
/-- a byte as a value -/
abbrev Y (c : UInt8) : Value := .int .u8 (c.toNat : Int)
theorem letter_iff (c : UInt8) : letterB c = (decide ((97 : Int) ≤ c.toNat) && decide ((c.toNat : Int) ≤ 122)) := by
  unfold letterB
  congr 1 <;> rw [decide_eq_decide, UInt8.le_iff_toNat_le] <;> simp <;> omega
theorem digit_iff (c : UInt8) : digitB c = (decide ((48 : Int) ≤ c.toNat) && decide ((c.toNat : Int) ≤ 57)) := by
  unfold digitB
  congr 1 <;> rw [decide_eq_decide, UInt8.le_iff_toNat_le] <;> simp <;> omega
theorem letter_ret (c : UInt8) : Ret Tryz.prog 77 [Y c] w (fun v w' => v = .bool (letterB c) ∧ w' = w) := by
  rw [letter_iff]
  refine enter Tryz.call77 Tryz.func77 rfl rfl rfl rfl ?_
  (repeat first|refine zA ?_|refine zg ?_|refine zo rfl rfl trivial ?_|refine zn ?_)
  refine o_split _ _ rfl rfl rfl (fun h => ?_) (fun h => ?_)
  · (repeat first|refine zo rfl rfl trivial ?_|refine zn ?_|refine zr ?_)
    exact ⟨_, rfl, by rw [h]; rfl, rfl⟩
  · (repeat first|refine zo rfl rfl trivial ?_|refine zn ?_|refine zr ?_)
    exact ⟨_, rfl, by rw [h]; rfl, rfl⟩
theorem digit_ret (c : UInt8) : Ret Tryz.prog 78 [Y c] w (fun v w' => v = .bool (digitB c) ∧ w' = w) := by
  rw [digit_iff]
  refine enter Tryz.call78 Tryz.func78 rfl rfl rfl rfl ?_
  (repeat first|refine zA ?_|refine zg ?_|refine zo rfl rfl trivial ?_|refine zn ?_)
  refine o_split _ _ rfl rfl rfl (fun h => ?_) (fun h => ?_)
  · (repeat first|refine zo rfl rfl trivial ?_|refine zn ?_|refine zr ?_)
    exact ⟨_, rfl, by rw [h]; rfl, rfl⟩
  · (repeat first|refine zo rfl rfl trivial ?_|refine zn ?_|refine zr ?_)
    exact ⟨_, rfl, by rw [h]; rfl, rfl⟩
/-- what is thrown at a token that cannot stand -/
def refV (c i : Int) : Value := .iface 97 (.agg #[I c, I i])
/-- the cells of a parser -/
abbrev pC (txt : List UInt8) (i : Nat) (k : Tok) : List Value := [S txt, I i, S k.text, I k.num, I k.at_]
abbrev PB (w : World) (p : Nat) (txt : List UInt8) (i : Nat) (k : Tok) : Prop := Blk w p (pC txt i k) 103
theorem refuse_ret (c i : Int) (R : Value → World → Prop) : RetP Tryz.prog 79 [I c, I i] w R (fun v w' => v = refV c i ∧ w' = w) := by
  refine enterP Tryz.call79 Tryz.func79 rfl rfl rfl rfl ?_
  (repeat first|refine zg ?_|refine zo rfl rfl trivial ?_)
  refine o_build [I c, I i] rfl rfl rfl rfl rfl rfl rfl ?_
  refine o_build [I c, I i] rfl rfl rfl rfl rfl rfl rfl ?_
  refine o_iface rfl rfl rfl rfl rfl ?_
  refine o_panic rfl rfl ?_
  exact ⟨rfl, rfl⟩
end Go.Vc
/- Query: the parser's marks. -/
namespace Go.Vc
open Go Go.Proofs
set_option maxRecDepth 10000
variable {w : World} {p : Nat} {txt : List UInt8} {i : Nat} {k : Tok}
theorem off_ret (h : PB w p txt i k) (R : Value → World → Prop) : RetP Tryz.prog 43 [ptr p] w R (fun v w' => v = refV 301 k.at_ ∧ w' = w) := by
  refine enterP Tryz.call43 Tryz.func43 rfl rfl rfl rfl ?_
  (repeat first|refine zg ?_|refine zo rfl rfl trivial ?_|refine o_load rfl h rfl rfl rfl rfl rfl ?_)
  exact o_callP (refuse_ret _ _ (fun _ _ => False)) rfl rfl rfl (fun v w' h => h) (fun v w' h => h.elim)
theorem chr_get {l : List UInt8} {i : Nat} (hi : i < l.length) : l.drop i = l.getD i 0 :: l.drop (i + 1) := by
  rw [List.drop_eq_getElem_cons hi, List.getD_eq_getElem?_getD, List.getElem?_eq_getElem hi]; rfl
theorem head_drop {l : List UInt8} {i : Nat} : (l.drop i).head? = l[i]? := by rw [List.head?_drop]
theorem u8_33 (c : UInt8) : ((c.toNat : Int) = 33) ↔ c = 33 := by rw [← UInt8.toNat_inj]; simp <;> omega
theorem u8_60 (c : UInt8) : ((c.toNat : Int) = 60) ↔ c = 60 := by rw [← UInt8.toNat_inj]; simp <;> omega
theorem u8_62 (c : UInt8) : ((c.toNat : Int) = 62) ↔ c = 62 := by rw [← UInt8.toNat_inj]; simp <;> omega
theorem u8_61 (c : UInt8) : ((c.toNat : Int) = 61) ↔ c = 61 := by rw [← UInt8.toNat_inj]; simp <;> omega
def oneB (c : UInt8) : Prop := c = 40 ∨ c = 41 ∨ c = 44 ∨ c = 58 ∨ c = 43 ∨ c = 45 ∨ c = 42 ∨ c = 61
theorem oneB_iff (c : UInt8) : oneB c ↔ ((c.toNat : Int) = 40 ∨ (c.toNat : Int) = 41 ∨ (c.toNat : Int) = 44 ∨ (c.toNat : Int) = 58 ∨ (c.toNat : Int) = 43 ∨ (c.toNat : Int) = 45 ∨ (c.toNat : Int) = 42 ∨ (c.toNat : Int) = 61) := by
  unfold oneB
  simp only [← UInt8.toNat_inj]
  simp
  omega
instance (c : UInt8) : Decidable (oneB c) := by unfold oneB; infer_instance
theorem mark_at (hi : i < txt.length) : markLen (txt.drop i) = (if txt.getD i 0 = 33 then (if txt[i + 1]? = some 61 then 2 else 0) else if txt.getD i 0 = 60 ∨ txt.getD i 0 = 62 then (if txt[i + 1]? = some 61 then 2 else 1) else if oneB (txt.getD i 0) then 1 else 0) := by
  rw [chr_get hi]
  simp only [markLen, head_drop]
  rfl
set_option maxHeartbeats 6400000 in
theorem mark_ret (h : PB w p txt i k) (hl : txt.length ≤ 4096) (hi : i < txt.length) :
    RetP Tryz.prog 80 [ptr p, Y (txt.getD i 0)] w (fun v w' => v = .tuple #[] ∧ markLen (txt.drop i) ≠ 0 ∧ PB w' p txt (i + markLen (txt.drop i)) k ∧ Kp [p] w w')
      (fun v w' => markLen (txt.drop i) = 0 ∧ v = refV 300 i ∧ Kp [p] w w') := by
  have hml := mark_at hi
  generalize txt.getD i 0 = c at hml ⊢
  refine enterP Tryz.call80 Tryz.func80 rfl rfl rfl rfl ?_
  refine r_seq ?_
  refine r_bool [0, 1] [ptr p, Y c] 4 (decide (txt[i + 1]? = some 61)) (fun W => Sm w W) ?_ ?_
  · refine r_quietS follows_mixed (by kernel_rfl) ?_
    (repeat first|refine yo rfl rfl (by first|exact trivial|(simp only[AllP];omega)) ?_|refine q_load rfl (fun _ hs => (Sm.blk hs h).cell rfl) rfl rfl rfl rfl ?_)
    refine q_split _ _ rfl rfl rfl (fun h1 => ?_) (fun h1 => ?_)
    · have h1 : ((i : Int) + 1) < txt.length := of_decide_eq_true h1
      (repeat first|refine yo rfl rfl (by first|exact trivial|(simp only[AllP];omega)) ?_|refine yn ?_|refine q_load rfl (fun _ hs => (Sm.blk hs h).cell rfl) rfl rfl rfl rfl ?_)
      intro w' hs
      refine ⟨rfl, ⟨_, rfl, ?_⟩, hs⟩
      rw [decide_eq_decide, u8_61, show ((i : Int) + 1).toNat = i + 1 by omega, List.getD_eq_getElem?_getD, List.getElem?_eq_getElem (by omega)]
      simp
    · have h1 : ¬ ((i : Int) + 1) < txt.length := of_decide_eq_false h1
      (repeat first|refine yo rfl rfl trivial ?_|refine yn ?_)
      intro w' hs
      refine ⟨rfl, ⟨_, rfl, ?_⟩, hs⟩
      rw [List.getElem?_eq_none (by omega)]
      simp
  intro e w1 hs
  have h1 : PB w1 p txt i k := hs.blk h
  have k1 : Kp [p] w w1 := hs.kp [p]
  generalize hz : txt[i + 1]? = z at hml ⊢
  have last : ∀ (m : Nat) (w2 : World), PB w2 p txt (i + m) k → Kp [p] w w2 → markLen (txt.drop i) = m + 1 → ∀ w3, Upd w2 p (.cells ⟨(pC txt (i + m) k).set 1 (I (((i + m : Nat) : Int) + 1))⟩ 103 (0, 0)) w3 → markLen (txt.drop i) ≠ 0 ∧ PB w3 p txt (i + markLen (txt.drop i)) k ∧ Kp [p] w w3 := by
    intro m w2 hB hk hm w3 hu
    refine ⟨by omega, ?_, hk.trans (hu.kp [p] (.inl (by simp)))⟩
    have := hu.blk
    rw [hm, show ((i + (m + 1) : Nat) = i + m + 1) by omega]
    show Blk w3 p [S txt, I ((i + m + 1 : Nat) : Int), S k.text, I k.num, I k.at_] _
    rw [Int.natCast_add]
    exact this
  (repeat first|refine zA ?_|refine zC ?_|refine zg ?_|refine zo rfl rfl trivial ?_|refine zn ?_|refine zb ?_)
  refine r_seq ?_
  refine r_seq ?_
  (repeat first|refine zA ?_|refine zg ?_|refine zo rfl rfl trivial ?_|refine zn ?_)
  refine r_if rfl (fun hc => ?_) (fun hc => ?_)
  · rw [u8_33] at hc
    rw [if_pos hc] at hml
    (repeat first|refine zA ?_|refine zg ?_|refine zo rfl rfl trivial ?_|refine zn ?_|refine ze rfl ?_)
    refine r_ifn rfl (fun h2 => ?_) (fun h2 => ?_)
    · rw [if_neg h2] at hml
      (repeat first|refine zg ?_|refine zo rfl rfl trivial ?_|refine o_load rfl h1 rfl rfl rfl rfl rfl ?_)
      exact o_callP (refuse_ret _ _ (fun _ _ => False)) rfl rfl rfl (fun v w' ⟨h, h'⟩ => ⟨hml, h, h' ▸ k1⟩) (fun v w' h => h.elim)
    · rw [if_pos h2] at hml
      (repeat first|refine zA ?_|refine zg ?_|refine zo rfl rfl trivial ?_|refine zn ?_|refine zk ?_)
      refine r_yes rfl (by simpa using h2) ?_
      (repeat first|refine zg ?_|refine zo rfl rfl (by first|exact trivial|(simp only[AllP];omega)) ?_|refine o_load rfl h1 rfl rfl rfl rfl rfl ?_)
      refine o_store (b := p) (off := 1) (v := I ((i : Int) + 1)) rfl h1 (by simp) rfl rfl rfl rfl rfl rfl ?_
      intro w2 hu2
      have h2 : PB w2 p txt (i + 1) k := hu2.blk
      (repeat first|refine zA ?_|refine zg ?_|refine zo rfl rfl (by first|exact trivial|(simp only[AllP];omega)) ?_|refine zn ?_|refine o_load rfl h2 rfl rfl rfl rfl rfl ?_)
      refine o_store (b := p) (off := 1) (v := I (((i + 1 : Nat) : Int) + 1)) rfl h2 (by simp) rfl rfl rfl rfl rfl rfl ?_
      intro w3 hu3
      (repeat first|refine zn ?_|refine ze rfl ?_)
      exact ⟨_, rfl, rfl, last 1 w2 h2 (k1.trans (hu2.kp [p] (.inl (by simp)))) hml w3 hu3⟩
  · rw [u8_33] at hc
    rw [if_neg hc] at hml
    (repeat refine zk ?_)
    refine r_seq ?_
    refine r_seq ?_
    refine r_bool [0, 4, 29] [ptr p, .bool (decide (z = some 61)), Y c] 32 (decide (c = 60 ∨ c = 62)) (fun W => W = w1) ?_ ?_
    · (repeat first|refine zA ?_|refine zg ?_|refine zo rfl rfl trivial ?_|refine zn ?_)
      refine r_if rfl (fun h2 => ?_) (fun h2 => ?_)
      · (repeat refine zk ?_)
        exact ⟨rfl, ⟨_, rfl, by rw [decide_eq_decide, ← u8_60]; simp [h2]⟩, rfl⟩
      · (repeat first|refine zg ?_|refine zo rfl rfl trivial ?_|refine zn ?_)
        exact ⟨rfl, ⟨_, rfl, by rw [decide_eq_decide, ← u8_60, ← u8_62]; simp [h2]⟩, rfl⟩
    rintro e2 w1' rfl
    refine r_if rfl (fun h2 => ?_) (fun h2 => ?_)
    · rw [if_pos h2] at hml
      (repeat first|refine zA ?_|refine zg ?_|refine zo rfl rfl trivial ?_|refine zn ?_|refine ze rfl ?_)
      refine r_if rfl (fun h3 => ?_) (fun h3 => ?_)
      · rw [if_pos h3] at hml
        (repeat first|refine zg ?_|refine zo rfl rfl (by first|exact trivial|(simp only[AllP];omega)) ?_|refine o_load rfl h1 rfl rfl rfl rfl rfl ?_)
        refine o_store (b := p) (off := 1) (v := I ((i : Int) + 1)) rfl h1 (by simp) rfl rfl rfl rfl rfl rfl ?_
        intro w2 hu2
        have h2 : PB w2 p txt (i + 1) k := hu2.blk
        (repeat first|refine zA ?_|refine zg ?_|refine zo rfl rfl (by first|exact trivial|(simp only[AllP];omega)) ?_|refine zn ?_|refine o_load rfl h2 rfl rfl rfl rfl rfl ?_)
        refine o_store (b := p) (off := 1) (v := I (((i + 1 : Nat) : Int) + 1)) rfl h2 (by simp) rfl rfl rfl rfl rfl rfl ?_
        intro w3 hu3
        (repeat first|refine zn ?_|refine ze rfl ?_)
        exact ⟨_, rfl, rfl, last 1 w2 h2 (k1.trans (hu2.kp [p] (.inl (by simp)))) hml w3 hu3⟩
      · rw [if_neg h3] at hml
        (repeat first|refine zA ?_|refine zg ?_|refine zo rfl rfl (by first|exact trivial|(simp only[AllP];omega)) ?_|refine zk ?_|refine o_load rfl h1 rfl rfl rfl rfl rfl ?_)
        refine o_store (b := p) (off := 1) (v := I (((i + 0 : Nat) : Int) + 1)) rfl h1 (by simp) rfl rfl rfl rfl rfl rfl ?_
        intro w3 hu3
        (repeat first|refine zn ?_|refine ze rfl ?_)
        exact ⟨_, rfl, rfl, last 0 w1' h1 k1 hml w3 hu3⟩
    · rw [if_neg h2] at hml
      refine zk ?_
      refine r_seq ?_
      refine r_bool [0, 4, 29] [ptr p, .bool (decide (z = some 61)), Y c] 35 (decide (oneB c)) (fun W => W = w1') ?_ ?_
      · have fin : ∀ b : Bool, (b = true ↔ oneB c) → b = decide (oneB c) := fun b hb => by rw [Bool.eq_iff_iff, hb, decide_eq_true_eq]
        simp only [oneB_iff] at fin ⊢
        (repeat first|refine zA ?_|refine zg ?_|refine zo rfl rfl trivial ?_|refine zn ?_)
        refine r_if rfl (fun q1 => ?_) (fun q1 => ?_)
        · (repeat refine zk ?_)
          exact ⟨rfl, ⟨_, rfl, by simp [q1]⟩, rfl⟩
        (repeat first|refine zA ?_|refine zg ?_|refine zo rfl rfl trivial ?_|refine zn ?_)
        refine r_if rfl (fun q2 => ?_) (fun q2 => ?_)
        · (repeat refine zk ?_)
          exact ⟨rfl, ⟨_, rfl, by simp [q2]⟩, rfl⟩
        (repeat first|refine zA ?_|refine zg ?_|refine zo rfl rfl trivial ?_|refine zn ?_)
        refine r_if rfl (fun q3 => ?_) (fun q3 => ?_)
        · (repeat refine zk ?_)
          exact ⟨rfl, ⟨_, rfl, by simp [q3]⟩, rfl⟩
        (repeat first|refine zA ?_|refine zg ?_|refine zo rfl rfl trivial ?_|refine zn ?_)
        refine r_if rfl (fun q4 => ?_) (fun q4 => ?_)
        · (repeat refine zk ?_)
          exact ⟨rfl, ⟨_, rfl, by simp [q4]⟩, rfl⟩
        (repeat first|refine zA ?_|refine zg ?_|refine zo rfl rfl trivial ?_|refine zn ?_)
        refine r_if rfl (fun q5 => ?_) (fun q5 => ?_)
        · (repeat refine zk ?_)
          exact ⟨rfl, ⟨_, rfl, by simp [q5]⟩, rfl⟩
        (repeat first|refine zA ?_|refine zg ?_|refine zo rfl rfl trivial ?_|refine zn ?_)
        refine r_if rfl (fun q6 => ?_) (fun q6 => ?_)
        · (repeat refine zk ?_)
          exact ⟨rfl, ⟨_, rfl, by simp [q6]⟩, rfl⟩
        (repeat first|refine zA ?_|refine zg ?_|refine zo rfl rfl trivial ?_|refine zn ?_)
        refine r_if rfl (fun q7 => ?_) (fun q7 => ?_)
        · (repeat refine zk ?_)
          exact ⟨rfl, ⟨_, rfl, by simp [q7]⟩, rfl⟩
        (repeat first|refine zg ?_|refine zo rfl rfl trivial ?_|refine zn ?_)
        exact ⟨rfl, ⟨_, rfl, by simp [q1, q2, q3, q4, q5, q6, q7]⟩, rfl⟩
      rintro e3 w2 rfl
      refine r_if rfl (fun h3 => ?_) (fun h3 => ?_)
      · rw [if_pos h3] at hml
        (repeat first|refine zA ?_|refine zg ?_|refine zo rfl rfl (by first|exact trivial|(simp only[AllP];omega)) ?_|refine ze rfl ?_|refine o_load rfl h1 rfl rfl rfl rfl rfl ?_)
        refine o_store (b := p) (off := 1) (v := I (((i + 0 : Nat) : Int) + 1)) rfl h1 (by simp) rfl rfl rfl rfl rfl rfl ?_
        intro w3 hu3
        (repeat first|refine zn ?_|refine ze rfl ?_)
        exact ⟨_, rfl, rfl, last 0 w2 h1 k1 hml w3 hu3⟩
      · rw [if_neg h3] at hml
        (repeat first|refine zA ?_|refine zg ?_|refine zo rfl rfl trivial ?_|refine ze rfl ?_|refine zk ?_|refine o_load rfl h1 rfl rfl rfl rfl rfl ?_)
        exact o_callP (refuse_ret _ _ (fun _ _ => False)) rfl rfl rfl (fun v w' ⟨h, h'⟩ => ⟨hml, h, h' ▸ k1⟩) (fun v w' h => h.elim)
end Go.Vc
