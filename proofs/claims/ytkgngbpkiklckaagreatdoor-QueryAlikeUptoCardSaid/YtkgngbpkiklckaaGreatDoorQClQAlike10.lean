/- Query: tokens, trees and how they are read, in plain Lean (no program in sight). -/
import Derived.Test.YtkgngbpkiklckaaGreatDoorQClQAlike4
import Derived.Test.YtkgngbpkiklckaaGreatDoorQClQAlike5
import Derived.Test.YtkgngbpkiklckaaGreatDoorQClQAlike9
import Derived.Test.YtkgngbpkiklckaaGreatDoorQClQAlike6
namespace Go.Vc
/-- a tree of a question -/
inductive QT where
  | n0 (op num : Int) (name : List UInt8)
  | n1 (op num : Int) (name : List UInt8) (a : QT)
  | n2 (op num : Int) (name : List UInt8) (a b : QT)
  deriving DecidableEq
def QT.size : QT → Nat
  | .n0 .. => 1
  | .n1 _ _ _ a => 1 + a.size
  | .n2 _ _ _ a b => 1 + a.size + b.size
def QT.op : QT → Int
  | .n0 o .. => o
  | .n1 o .. => o
  | .n2 o .. => o
def QT.depth : QT → Nat
  | .n0 .. => 0
  | .n1 _ _ _ a => 1 + a.depth
  | .n2 _ _ _ a b => 1 + max a.depth b.depth
/-- a node in a row -/
structure QN where
  op : Int
  size : Int
  num : Int
  name : List UInt8
  deriving DecidableEq
def QT.rows : QT → List QN
  | .n0 o m s => [⟨o, 1, m, s⟩]
  | .n1 o m s a => ⟨o, 1 + a.size, m, s⟩ :: a.rows
  | .n2 o m s a b => ⟨o, 1 + a.size + b.size, m, s⟩ :: (a.rows ++ b.rows)
theorem QT.rows_len : ∀ t : QT, t.rows.length = t.size
  | .n0 .. => rfl
  | .n1 _ _ _ a => by simp [QT.rows, QT.size, a.rows_len]; omega
  | .n2 _ _ _ a b => by simp [QT.rows, QT.size, a.rows_len, b.rows_len]; omega
theorem QT.size_pos (t : QT) : 1 ≤ t.size := by cases t <;> simp [QT.size] <;> omega

/-! ### Tokens -/
structure Tok where
  text : List UInt8
  num : Int
  at_ : Nat
  deriving DecidableEq
/-- what is left, token by token -/
inductive TS where
  | stop (at_ : Nat)
  | bad (at_ : Nat)
  | tok (t : Tok) (rest : TS)
  deriving DecidableEq
def TS.len : TS → Nat
  | .stop _ => 0
  | .bad _ => 0
  | .tok _ r => r.len + 1
def TS.pos : TS → Nat
  | .stop i => i
  | .bad i => i
  | .tok t _ => t.at_
def letterB (c : UInt8) : Bool := decide (97 ≤ c) && decide (c ≤ 122)
def digitB (c : UInt8) : Bool := decide (48 ≤ c) && decide (c ≤ 57)
def blankB (c : UInt8) : Bool := decide (c = 32) || decide (c = 9) || decide (c = 10) || decide (c = 13)
/-- a number's digits, on and on; none: it is too great -/
def numAcc : Nat → List UInt8 → Option Nat
  | n, [] => some n
  | n, c :: r => if n ≤ (9223372036854775807 - (c.toNat - 48)) / 10 then numAcc (10 * n + (c.toNat - 48)) r else none
/-- how many bytes a mark takes; 0: none begins there -/
def markLen : List UInt8 → Nat
  | [] => 0
  | c :: r =>
    if c = 33 then (if r.head? = some 61 then 2 else 0)
    else if c = 60 ∨ c = 62 then (if r.head? = some 61 then 2 else 1)
    else if c = 40 ∨ c = 41 ∨ c = 44 ∨ c = 58 ∨ c = 43 ∨ c = 45 ∨ c = 42 ∨ c = 61 then 1
    else 0
/-- the token that stands at the head of what is left, blanks gone: it, and how many bytes it takes; none: a byte that begins none -/
def tok1 (i : Nat) : List UInt8 → Option Tok
  | [] => some ⟨[], -1, i⟩
  | c :: r =>
    if letterB c then some ⟨c :: r.takeWhile (fun c => letterB c || digitB c), -1, i⟩
    else if digitB c then (numAcc 0 (c :: r.takeWhile digitB)).map fun (n : Nat) => (⟨c :: r.takeWhile digitB, (n : Int), i⟩ : Tok)
    else if markLen (c :: r) = 0 then none
    else some ⟨(c :: r).take (markLen (c :: r)), -1, i⟩
def skipB (l : List UInt8) : Nat := (l.takeWhile blankB).length
/-- the tokens of a text from a place on -/
def lexF : Nat → Nat → List UInt8 → TS
  | 0, i, _ => .stop i
  | f + 1, i, l =>
    match l.drop (skipB l) with
    | [] => .stop (i + skipB l)
    | c :: r =>
      match tok1 (i + skipB l) (c :: r) with
      | none => .bad (i + skipB l)
      | some t => .tok t (lexF f (i + skipB l + t.text.length) ((c :: r).drop t.text.length))
/-- the tokens of a text from the place i on -/
def lex (txt : List UInt8) (i : Nat) : TS := lexF (txt.length + 1 - i) i (txt.drop i)

/-! ### Words -/
/-- the operations' words, from 0 on -/
def opWord : Nat → List UInt8
  | 3 => [101, 118, 101, 110, 116, 115]
  | 4 => [45]
  | 5 => [43]
  | 6 => [45]
  | 7 => [42]
  | 8 => [116, 104, 114, 101, 97, 100]
  | 9 => [107, 105, 110, 100]
  | 10 => [111, 98, 106]
  | 11 => [60]
  | 12 => [60, 61]
  | 13 => [61]
  | 14 => [33, 61]
  | 15 => [62, 61]
  | 16 => [62]
  | 17 => [110, 111, 116]
  | 18 => [97, 110, 100]
  | 19 => [111, 114]
  | 20 => [98, 101, 102, 111, 114, 101]
  | 21 => [114, 97, 99, 101]
  | 22 => [97, 110, 121]
  | 23 => [97, 108, 108]
  | 24 => [99, 111, 117, 110, 116]
  | 25 => [108, 101, 97, 115, 116]
  | 26 => [109, 111, 115, 116]
  | _ => []
/-- the words of the kinds of events -/
def kindWords : List (List UInt8) := [[114, 101, 97, 100], [119, 114, 105, 116, 101], [108, 111, 111, 107], [115, 101, 116], [108, 111, 99, 107], [117, 110, 108, 111, 99, 107], [102, 111, 114, 107], [106, 111, 105, 110], [97, 114, 114, 105, 118, 101], [100, 101, 112, 97, 114, 116], [101, 120, 105, 116]]
/-- is this the word of the operation k, and of letters? -/
def opT (s : List UInt8) (k : Nat) : Bool := decide (opWord k = s) && !(Op.bytesLess s [97] || decide (s = [97]))
/-- the operation of a word of letters; 0: none's -/
def opOf (s : List UInt8) : Nat := ((List.range 27).find? (opT s)).getD 0
/-- is a text a name? -/
def qName (s : List UInt8) : Bool :=
  !s.isEmpty && decide (s.length ≤ 24) && decide (opOf s = 0) && !(kindWords.contains s) && (s.head?.map letterB).getD false && s.all fun c => letterB c || digitB c
/-- what an operation binds, what it is called with -/
def bindsO (op : Nat) : Bool := decide (22 ≤ op) && decide (op ≤ 26)
def callO (op : Nat) : Bool := decide (op = 8) || decide (op = 9) || decide (op = 10) || decide (op = 20) || decide (op = 21)
def kidsO (op : Nat) : Nat :=
  if op = 0 ∨ op = 1 ∨ op = 2 ∨ op = 3 then 0 else if op = 4 ∨ op = 8 ∨ op = 9 ∨ op = 10 ∨ op = 17 ∨ (22 ≤ op ∧ op ≤ 26) then 1 else if op ≤ 26 then 2 else 0

/-! ### How a question is read -/
abbrev PR := Except (Int × Int) (QT × TS)
/-- one token on -/
def adv : TS → Except (Int × Int) TS
  | .tok _ (.bad i) => .error (300, i)
  | .tok _ r => .ok r
  | s => .ok s
def TS.is (s : TS) (word : List UInt8) : Bool :=
  match s with
  | .tok t _ => decide (t.text = word) && decide (t.num < 0)
  | _ => false
def mustT (s : TS) (word : List UInt8) : Except (Int × Int) TS := if s.is word then adv s else .error (301, s.pos)
/-- what may stand between, by the level: 0 or, 1 and, 3 sums, 4 products -/
def rowOp (lvl : Nat) (s : TS) : Option Int :=
  match lvl with
  | 0 => if s.is (opWord 19) then some 19 else none
  | 1 => if s.is (opWord 18) then some 18 else none
  | 3 => if s.is (opWord 5) then some 5 else if s.is (opWord 6) then some 6 else none
  | _ => if s.is (opWord 7) then some 7 else none
def subLvl : Nat → Nat
  | 0 => 1
  | 1 => 2
  | 3 => 4
  | _ => 5
/-- the comparison that stands there -/
def cmpOp (s : TS) : Option Nat := ([11, 12, 13, 14, 15, 16] : List Nat).find? fun k => s.is (opWord k)
/-- the kind's number of a word -/
def kindOf (s : List UInt8) : Option Nat := (kindWords.findIdx? fun k => decide (k = s)).map (· + 1)
mutual
/-- a question (0), conjunction (1), simple (2), sum (3), term (4), factor (5) -/
def rd : Nat → Nat → TS → PR
  | 0, _, s => .error (0, s.pos)
  | n + 1, lvl, s =>
    match lvl with
    | 2 =>
      if s.is (opWord 17) then do
        let s ← adv s
        let (t, s) ← rd n 2 s
        .ok (.n1 17 0 [] t, s)
      else do
        let (t, s) ← rd n 3 s
        match cmpOp s with
        | some op => do
          let s ← adv s
          let (u, s) ← rd n 3 s
          .ok (.n2 op 0 [] t u, s)
        | none => .ok (t, s)
    | 0 | 1 | 3 | 4 => do
      let (t, s) ← rd n (subLvl lvl) s
      rw n lvl t s
    | _ =>
      match s with
      | .tok t _ =>
        if 0 ≤ t.num then do
          let s ← adv s
          .ok (.n0 1 t.num [], s)
        else if s.is (opWord 4) then do
          let s ← adv s
          let (u, s) ← rd n 5 s
          .ok (.n1 4 0 [] u, s)
        else if s.is [40] then do
          let s ← adv s
          let (u, s) ← rd n 0 s
          let s ← mustT s [41]
          .ok (u, s)
        else match kindOf t.text with
          | some k => do
            let s ← adv s
            .ok (.n0 1 k [], s)
          | none =>
            if opOf t.text ≠ 0 then wd n (opOf t.text) s
            else if qName t.text then do
              let s ← adv s
              .ok (.n0 2 0 t.text, s)
            else .error (301, t.at_)
      | s => .error (301, s.pos)
/-- what stands behind the first of a row -/
def rw : Nat → Nat → QT → TS → PR
  | 0, _, _, s => .error (0, s.pos)
  | n + 1, lvl, t, s =>
    match rowOp lvl s with
    | none => .ok (t, s)
    | some op => do
      let s ← adv s
      let (u, s) ← rd n (subLvl lvl) s
      rw n lvl (.n2 op 0 [] t u) s
/-- what begins with an operation's word -/
def wd : Nat → Nat → TS → PR
  | 0, _, s => .error (0, s.pos)
  | n + 1, op, s =>
    if op = 3 then do
      let s ← adv s
      .ok (.n0 3 0 [], s)
    else if bindsO op then do
      let s ← adv s
      match s with
      | .tok t r =>
        if 0 ≤ t.num ∨ qName t.text = false then .error (301, t.at_)
        else do
          let s ← adv (.tok t r)
          let s ← mustT s [58]
          let (u, s) ← rd n 0 s
          .ok (.n1 op 0 t.text u, s)
      | s => .error (301, s.pos)
    else if callO op then do
      let s ← adv s
      let s ← mustT s [40]
      let (u, s) ← rd n 0 s
      if kidsO op = 1 then do
        let s ← mustT s [41]
        .ok (.n1 op 0 [] u, s)
      else do
        let s ← mustT s [44]
        let (v, s) ← rd n 0 s
        let s ← mustT s [41]
        .ok (.n2 op 0 [] u v, s)
    else .error (301, s.pos)
end
/-- P30.1 as the program has it -/
def parseM (txt : List UInt8) : Except (Int × Int) QT :=
  if 4096 < txt.length then .error (3, 4096)
  else match lex txt 0 with
    | .bad i => .error (300, i)
    | s => do
      let (t, s) ← rd (20 * txt.length + 20) 0 s
      match s with
      | .tok u _ => .error (301, u.at_)
      | _ => if 64 < t.depth then .error (302, 0) else .ok t
end Go.Vc
/- Query: what is meant, in plain Lean (no program in sight). -/
namespace Go.Vc
/-- what questions are asked of -/
structure QW where
  n : Nat
  part : Int → Int → Int
  bef : Int → Int → Bool
  race : Int → Int → Bool
def trI (b : Bool) : Int := if b then 1 else 0
/-- what two numbers make -/
def pairV (W : QW) (op x y : Int) : Int :=
  if op = 5 then IntKind.i64.wrap (x + y) else if op = 6 then IntKind.i64.wrap (x - y) else if op = 7 then IntKind.i64.wrap (x * y)
  else if op = 11 then trI (decide (x < y)) else if op = 12 then trI (decide (x ≤ y)) else if op = 13 then trI (decide (x = y))
  else if op = 14 then trI (!decide (x = y)) else if op = 15 then trI (decide (y ≤ x)) else if op = 16 then trI (decide (y < x))
  else if op = 20 then trI (W.bef x y) else trI (W.race x y)
/-- what one number makes -/
def oneV (W : QW) (op x : Int) : Int :=
  if op = 4 then IntKind.i64.wrap (0 - x) else if op = 17 then IntKind.i64.wrap (1 - x) else W.part op x
/-- what binds, from these events on -/
def bindL (op : Int) (f : Int → Int × Nat) : List Int → Int → Int × Nat
  | [], c => (if op = 23 then 1 else if op = 25 ∨ op = 26 then -1 else c, 0)
  | i :: r, c =>
    if op = 23 ∧ (f i).1 ≠ 1 then (0, (f i).2)
    else if op = 22 ∧ (f i).1 = 1 then (1, (f i).2)
    else if (op = 25 ∨ op = 26) ∧ (f i).1 = 1 then (i, (f i).2)
    else ((bindL op f r (c + trI (decide ((f i).1 = 1)))).1, (f i).2 + (bindL op f r (c + trI (decide ((f i).1 = 1)))).2)
def evs (W : QW) (op : Int) : List Int := if op = 26 then ((List.range W.n).map fun (i : Nat) => ((W.n - 1 - i : Nat) : Int)) else (List.range W.n).map fun (i : Nat) => (i : Int)
def setV (σ : List UInt8 → Int) (name : List UInt8) (i : Int) : List UInt8 → Int := fun s => if s = name then i else σ s
/-- a node's answer, and how many steps it takes -/
def evq (W : QW) : QT → (List UInt8 → Int) → Int × Nat
  | .n0 op num name, σ => (if op = 1 then num else if op = 2 then σ name else W.n, 1)
  | .n1 op _ name a, σ =>
    if 22 ≤ op then ((bindL op (fun i => evq W a (setV σ name i)) (evs W op) 0).1, 1 + (bindL op (fun i => evq W a (setV σ name i)) (evs W op) 0).2)
    else (oneV W op (evq W a σ).1, 1 + (evq W a σ).2)
  | .n2 op _ _ a b, σ =>
    if op = 18 then (if (evq W a σ).1 = 1 then (trI (decide ((evq W b σ).1 = 1)), 1 + (evq W a σ).2 + (evq W b σ).2) else (0, 1 + (evq W a σ).2))
    else if op = 19 then (if (evq W a σ).1 = 1 then (1, 1 + (evq W a σ).2) else (trI (decide ((evq W b σ).1 = 1)), 1 + (evq W a σ).2 + (evq W b σ).2))
    else (pairV W op (evq W a σ).1 (evq W b σ).1, 1 + (evq W a σ).2 + (evq W b σ).2)
/-! ### A tree's sorts -/
def ofO (op : Nat) : Int := if op ≤ 3 then 0 else if op = 17 ∨ op = 18 ∨ op = 19 ∨ 22 ≤ op then 2 else 1
def answerO (op : Nat) : Int := if op = 0 then 0 else if op ≤ 10 ∨ 24 ≤ op then 1 else 2
/-- is a node right by itself? -/
def ownQ (op num : Int) (name : List UInt8) : Bool :=
  decide (1 ≤ op) && decide (op ≤ 26) && decide (0 ≤ num) && (decide (num = 0) || decide (op = 1)) &&
    (if bindsO op.toNat || decide (op = 2) then qName name else decide (name = []))
/-- a tree off its nodes: what is left of them -/
def growF : Nat → Nat → List QN → Option (QT × List QN)
  | 0, _, _ => none
  | _ + 1, _, [] => none
  | f + 1, above, x :: r =>
    if 64 < above then none
    else if ownQ x.op x.num x.name = false then none
    else if kidsO x.op.toNat = 0 then (if x.size = 1 then some (.n0 x.op x.num x.name, r) else none)
    else match growF f (above + 1) r with
      | none => none
      | some (a, r1) =>
        if kidsO x.op.toNat = 1 then (if x.size = 1 + a.size then some (.n1 x.op x.num x.name a, r1) else none)
        else match growF f (above + 1) r1 with
          | none => none
          | some (b, r2) => if x.size = 1 + a.size + b.size then some (.n2 x.op x.num x.name a b, r2) else none
/-- the tree of a question -/
def wholeM (l : List QN) : Option QT :=
  match growF 66 0 l with
  | some (t, []) => some t
  | _ => none
/-- are all names bound? -/
def namedQ : QT → List (List UInt8) → Bool
  | .n0 op _ name, l => if op = 2 then l.contains name else true
  | .n1 op _ name a, l => namedQ a (if 22 ≤ op then l ++ [name] else l)
  | .n2 _ _ _ a b, l => namedQ a l && namedQ b l
/-- have all kids the sort that is asked for? -/
def senseQ : QT → Bool
  | .n0 .. => true
  | .n1 op _ _ a => decide (answerO a.op.toNat = ofO op.toNat) && senseQ a
  | .n2 op _ _ a b => (decide (answerO a.op.toNat = ofO op.toNat) && senseQ a) && (decide (answerO b.op.toNat = ofO op.toNat) && senseQ b)
/-- P30.2: the tree, or why not -/
def lookedM (l : List QN) : Except Int QT :=
  match wholeM l with
  | none => .error 305
  | some t => if namedQ t [] = false then .error 303 else if senseQ t = false then .error 304 else .ok t
end Go.Vc
/- Query: how tokens follow one another. -/
namespace Go.Vc
theorem tok1_len {i : Nat} {c : UInt8} {r : List UInt8} {t : Tok} (h : tok1 i (c :: r) = some t) : 1 ≤ t.text.length ∧ t.text.length ≤ r.length + 1 ∧ t.at_ = i ∧ t.text = (c :: r).take t.text.length := by
  simp only [tok1] at h
  split at h
  · cases h
    have := (List.takeWhile_prefix (p := fun c => letterB c || digitB c) (l := r))
    refine ⟨by simp, by simp; exact this.length_le, rfl, ?_⟩
    simp only [List.length_cons, List.take_succ_cons, List.cons.injEq, true_and]
    exact (List.prefix_iff_eq_take.1 this)
  · split at h
    · simp only [Option.map_eq_some_iff] at h
      obtain ⟨n, _, rfl⟩ := h
      have := (List.takeWhile_prefix (p := digitB) (l := r))
      refine ⟨by simp, by simp; exact this.length_le, rfl, ?_⟩
      simp only [List.length_cons, List.take_succ_cons, List.cons.injEq, true_and]
      exact (List.prefix_iff_eq_take.1 this)
    · split at h
      · cases h
      · rename_i hm
        cases h
        refine ⟨?_, by simp [List.length_take]; omega, rfl, by simp⟩
        simp only [List.length_take, List.length_cons]; omega
theorem skipB_le (l : List UInt8) : skipB l ≤ l.length := (List.takeWhile_prefix (p := blankB) (l := l)).length_le
theorem lexF_fuel : ∀ (f f' i : Nat) (l : List UInt8), l.length < f → l.length < f' → lexF f i l = lexF f' i l
  | 0, _, _, _, h, _ => by omega
  | f + 1, 0, _, _, _, h => by omega
  | f + 1, f' + 1, i, l, h, h' => by
    unfold lexF
    split
    · rfl
    · rename_i c r hd
      have hl : r.length + 1 + skipB l = l.length := by
        have h1 := congrArg List.length hd
        have h2 := skipB_le l
        simp at h1; omega
      split
      · rfl
      · rename_i t ht
        obtain ⟨h1, h2, _, _⟩ := tok1_len ht
        rw [lexF_fuel f f' _ _ (by simp; omega) (by simp; omega)]
/-- one token of a text -/
theorem lex_step {txt : List UInt8} {i : Nat} (hi : i ≤ txt.length) : lex txt i = match txt.drop (i + skipB (txt.drop i)) with
    | [] => .stop (i + skipB (txt.drop i))
    | c :: r => match tok1 (i + skipB (txt.drop i)) (c :: r) with
      | none => .bad (i + skipB (txt.drop i))
      | some t => .tok t (lex txt (i + skipB (txt.drop i) + t.text.length)) := by
  unfold lex
  rw [show txt.length + 1 - i = (txt.length - i) + 1 by omega, lexF, List.drop_drop]
  cases hd : txt.drop (i + skipB (txt.drop i)) with
  | nil => rfl
  | cons c r =>
    have hl : i + skipB (txt.drop i) + (r.length + 1) = txt.length := by
      have h1 := congrArg List.length hd
      have h2 := skipB_le (txt.drop i)
      simp only [List.length_drop, List.length_cons] at h1 h2; omega
    dsimp only
    cases ht : tok1 (i + skipB (txt.drop i)) (c :: r) with
    | none => rfl
    | some t =>
      dsimp only
      obtain ⟨h1, h2, _, _⟩ := tok1_len ht
      rw [← hd, List.drop_drop]
      congr 1
      exact lexF_fuel _ _ _ _ (by simp only [List.length_drop]; omega) (by simp only [List.length_drop]; omega)
/-- where a token ends -/
theorem lex_tok {txt : List UInt8} {i : Nat} (hi : i ≤ txt.length) {t : Tok} {r : TS} (h : lex txt i = .tok t r) : i ≤ t.at_ ∧ t.at_ + t.text.length ≤ txt.length ∧ 1 ≤ t.text.length ∧ r = lex txt (t.at_ + t.text.length) ∧ t.text = (txt.drop t.at_).take t.text.length := by
  rw [lex_step hi] at h
  split at h
  · cases h
  · rename_i c r' hd
    split at h
    · cases h
    · rename_i u hu
      injection h with h1 h2
      subst h1
      obtain ⟨g1, g2, g3, g4⟩ := tok1_len hu
      have hl : i + skipB (txt.drop i) + (r'.length + 1) = txt.length := by
        have h1 := congrArg List.length hd
        have h2 := skipB_le (txt.drop i)
        simp at h1 h2; omega
      rw [g3, hd]
      exact ⟨by omega, by omega, g1, h2.symm, g4⟩
theorem lex_len {txt : List UInt8} : ∀ (n i : Nat), i ≤ txt.length → txt.length - i ≤ n → (lex txt i).len ≤ txt.length - i
  | 0, i, hi, hn => by
    rw [lex_step hi, show i = txt.length by omega, List.drop_length]
    simp [skipB, TS.len]
  | n + 1, i, hi, hn => by
    cases h : lex txt i with
    | stop j => simp [TS.len]
    | bad j => simp [TS.len]
    | tok t r =>
      obtain ⟨h1, h2, h3, h4, _⟩ := lex_tok hi h
      subst h4
      have := lex_len n (t.at_ + t.text.length) h2 (by omega)
      simp only [TS.len]; omega
end Go.Vc
/- Query: the parser's first steps: letter, digit, refuse, off. -/
namespace Go.Vc
open Go Go.Proofs
set_option maxRecDepth 10000
variable {w : World}
/-- a byte as a value -/
abbrev Y (c : UInt8) : Value := .int .u8 (c.toNat : Int)
theorem letter_iff (c : UInt8) : letterB c = (decide ((97 : Int) ≤ c.toNat) && decide ((c.toNat : Int) ≤ 122)) := by
  unfold letterB
  congr 1 <;> rw [decide_eq_decide, UInt8.le_iff_toNat_le] <;> simp <;> omega
theorem digit_iff (c : UInt8) : digitB c = (decide ((48 : Int) ≤ c.toNat) && decide ((c.toNat : Int) ≤ 57)) := by
  unfold digitB
  congr 1 <;> rw [decide_eq_decide, UInt8.le_iff_toNat_le] <;> simp <;> omega
theorem letter_ret (c : UInt8) : Ret Tryz.prog 77 [Y c] w (fun v w' => v = .bool (letterB c) ∧ w' = w) := by
  rw [letter_iff]
  refine enter Tryz.call77 Tryz.func77 rfl rfl rfl rfl ?_
  (repeat first|refine zA ?_|refine zg ?_|refine zo rfl rfl trivial ?_|refine zn ?_)
  refine o_split _ _ rfl rfl rfl (fun h => ?_) (fun h => ?_)
  · (repeat first|refine zo rfl rfl trivial ?_|refine zn ?_|refine zr ?_)
    exact ⟨_, rfl, by rw [h]; rfl, rfl⟩
  · (repeat first|refine zo rfl rfl trivial ?_|refine zn ?_|refine zr ?_)
    exact ⟨_, rfl, by rw [h]; rfl, rfl⟩
theorem digit_ret (c : UInt8) : Ret Tryz.prog 78 [Y c] w (fun v w' => v = .bool (digitB c) ∧ w' = w) := by
  rw [digit_iff]
  refine enter Tryz.call78 Tryz.func78 rfl rfl rfl rfl ?_
  (repeat first|refine zA ?_|refine zg ?_|refine zo rfl rfl trivial ?_|refine zn ?_)
  refine o_split _ _ rfl rfl rfl (fun h => ?_) (fun h => ?_)
  · (repeat first|refine zo rfl rfl trivial ?_|refine zn ?_|refine zr ?_)
    exact ⟨_, rfl, by rw [h]; rfl, rfl⟩
  · (repeat first|refine zo rfl rfl trivial ?_|refine zn ?_|refine zr ?_)
    exact ⟨_, rfl, by rw [h]; rfl, rfl⟩
/-- what is thrown at a token that cannot stand -/
def refV (c i : Int) : Value := .iface 97 (.agg #[I c, I i])
/-- the cells of a parser -/
abbrev pC (txt : List UInt8) (i : Nat) (k : Tok) : List Value := [S txt, I i, S k.text, I k.num, I k.at_]
abbrev PB (w : World) (p : Nat) (txt : List UInt8) (i : Nat) (k : Tok) : Prop := Blk w p (pC txt i k) 103
theorem refuse_ret (c i : Int) (R : Value → World → Prop) : RetP Tryz.prog 79 [I c, I i] w R (fun v w' => v = refV c i ∧ w' = w) := by
  refine enterP Tryz.call79 Tryz.func79 rfl rfl rfl rfl ?_
  (repeat first|refine zg ?_|refine zo rfl rfl trivial ?_)
  refine o_build [I c, I i] rfl rfl rfl rfl rfl rfl rfl ?_
  refine o_build [I c, I i] rfl rfl rfl rfl rfl rfl rfl ?_
  refine o_iface rfl rfl rfl rfl rfl ?_
  refine o_panic rfl rfl ?_
  exact ⟨rfl, rfl⟩
end Go.Vc
