/- Parts of a proof. -/
import Derived.Test.YtkgngbpkiklckaaGreatDoorQClQExact8
set_option maxHeartbeats 12800000
namespace Go.Vc
inductive QT where
 | n0 (op num : Int) (name : List UInt8)
 | n1 (op num : Int) (name : List UInt8) (a : QT)
 | n2 (op num : Int) (name : List UInt8) (a b : QT)
 deriving DecidableEq
def QT.size : QT → Nat
 | .n0 .. => 1
 | .n1 _ _ _ a => 1 + a.size
 | .n2 _ _ _ a b => 1 + a.size + b.size
def QT.op : QT → Int
 | .n0 o .. => o
 | .n1 o .. => o
 | .n2 o .. => o
def QT.depth : QT → Nat
 | .n0 .. => 0
 | .n1 _ _ _ a => 1 + a.depth
 | .n2 _ _ _ a b => 1 + max a.depth b.depth
structure QN where
 op : Int
 size : Int
 num : Int
 name : List UInt8
 deriving DecidableEq
def QT.rows : QT → List QN
 | .n0 o m s => [⟨o, 1, m, s⟩]
 | .n1 o m s a => ⟨o, 1 + a.size, m, s⟩ :: a.rows
 | .n2 o m s a b => ⟨o, 1 + a.size + b.size, m, s⟩ :: (a.rows ++ b.rows)
theorem QT.rows_len : ∀ t : QT, t.rows.length = t.size
 | .n0 .. => rfl
 | .n1 _ _ _ a => by simp [QT.rows, QT.size, a.rows_len]; omega
 | .n2 _ _ _ a b => by simp [QT.rows, QT.size, a.rows_len, b.rows_len]; omega
theorem QT.size_pos (t : QT) : 1 ≤ t.size := by cases t <;> simp [QT.size] <;> omega
structure Tok where
 text : List UInt8
 num : Int
 at_ : Nat
 deriving DecidableEq
inductive TS where
 | stop (at_ : Nat)
 | bad (at_ : Nat)
 | tok (t : Tok) (rest : TS)
 deriving DecidableEq
def TS.len : TS → Nat
 | .stop _ => 0
 | .bad _ => 0
 | .tok _ r => r.len + 1
def TS.pos : TS → Nat
 | .stop i => i
 | .bad i => i
 | .tok t _ => t.at_
def Jb0 (c : UInt8) : Bool := decide (97 ≤ c) && decide (c ≤ 122)
def Jb3 (c : UInt8) : Bool := decide (48 ≤ c) && decide (c ≤ 57)
def Jn2 (c : UInt8) : Bool := decide (c = 32) || decide (c = 9) || decide (c = 10) || decide (c = 13)
def Ji3 : Nat → List UInt8 → Option Nat
 | n, [] => some n
 | n, c :: r => if n ≤ (9223372036854775807 - (c.toNat - 48)) / 10 then Ji3 (10 * n + (c.toNat - 48)) r else none
def Jc2 : List UInt8 → Nat
 | [] => 0
 | c :: r =>
  if c = 33 then (if r.head? = some 61 then 2 else 0)
  else if c = 60 ∨ c = 62 then (if r.head? = some 61 then 2 else 1)
  else if c = 40 ∨ c = 41 ∨ c = 44 ∨ c = 58 ∨ c = 43 ∨ c = 45 ∨ c = 42 ∨ c = 61 then 1
  else 0
def tok1 (i : Nat) : List UInt8 → Option Tok
 | [] => some ⟨[], -1, i⟩
 | c :: r =>
  if Jb0 c then some ⟨c :: r.takeWhile (fun c => Jb0 c || Jb3 c), -1, i⟩
  else if Jb3 c then (Ji3 0 (c :: r.takeWhile Jb3)).map fun (n : Nat) => (⟨c :: r.takeWhile Jb3, (n : Int), i⟩ : Tok)
  else if Jc2 (c :: r) = 0 then none
  else some ⟨(c :: r).take (Jc2 (c :: r)), -1, i⟩
def Jl3 (l : List UInt8) : Nat := (l.takeWhile Jn2).length
def lexF : Nat → Nat → List UInt8 → TS
 | 0, i, _ => .stop i
 | f + 1, i, l =>
  match l.drop (Jl3 l) with
  | [] => .stop (i + Jl3 l)
  | c :: r =>
   match tok1 (i + Jl3 l) (c :: r) with
   | none => .bad (i + Jl3 l)
   | some t => .tok t (lexF f (i + Jl3 l + t.text.length) ((c :: r).drop t.text.length))
def lex (txt : List UInt8) (i : Nat) : TS := lexF (txt.length + 1 - i) i (txt.drop i)
def Ja3 : Nat → List UInt8
 | 3 => [101, 118, 101, 110, 116, 115]
 | 4 => [45]
 | 5 => [43]
 | 6 => [45]
 | 7 => [42]
 | 8 => [116, 104, 114, 101, 97, 100]
 | 9 => [107, 105, 110, 100]
 | 10 => [111, 98, 106]
 | 11 => [60]
 | 12 => [60, 61]
 | 13 => [61]
 | 14 => [33, 61]
 | 15 => [62, 61]
 | 16 => [62]
 | 17 => [110, 111, 116]
 | 18 => [97, 110, 100]
 | 19 => [111, 114]
 | 20 => [98, 101, 102, 111, 114, 101]
 | 21 => [114, 97, 99, 101]
 | 22 => [97, 110, 121]
 | 23 => [97, 108, 108]
 | 24 => [99, 111, 117, 110, 116]
 | 25 => [108, 101, 97, 115, 116]
 | 26 => [109, 111, 115, 116]
 | _ => []
def Ja8 : List (List UInt8) := [[114, 101, 97, 100], [119, 114, 105, 116, 101], [108, 111, 111, 107], [115, 101, 116], [108, 111, 99, 107], [117, 110, 108, 111, 99, 107], [102, 111, 114, 107], [106, 111, 105, 110], [97, 114, 114, 105, 118, 101], [100, 101, 112, 97, 114, 116], [101, 120, 105, 116]]
def opT (s : List UInt8) (k : Nat) : Bool := decide (Ja3 k = s) && !(Op.bytesLess s [97] || decide (s = [97]))
def opOf (s : List UInt8) : Nat := ((List.range 27).find? (opT s)).getD 0
def Jc5 (s : List UInt8) : Bool :=
 !s.isEmpty && decide (s.length ≤ 24) && decide (opOf s = 0) && !(Ja8.contains s) && (s.head?.map Jb0).getD false && s.all fun c => Jb0 c || Jb3 c
def Jb6 (op : Nat) : Bool := decide (22 ≤ op) && decide (op ≤ 26)
def Jm0 (op : Nat) : Bool := decide (op = 8) || decide (op = 9) || decide (op = 10) || decide (op = 20) || decide (op = 21)
def Jc7 (op : Nat) : Nat :=
 if op = 0 ∨ op = 1 ∨ op = 2 ∨ op = 3 then 0 else if op = 4 ∨ op = 8 ∨ op = 9 ∨ op = 10 ∨ op = 17 ∨ (22 ≤ op ∧ op ≤ 26) then 1 else if op ≤ 26 then 2 else 0
abbrev PR := Except (Int × Int) (QT × TS)
def adv : TS → Except (Int × Int) TS
 | .tok _ (.bad i) => .error (300, i)
 | .tok _ r => .ok r
 | s => .ok s
def TS.is (s : TS) (word : List UInt8) : Bool :=
 match s with
 | .tok t _ => decide (t.text = word) && decide (t.num < 0)
 | _ => false
def Jc4 (s : TS) (word : List UInt8) : Except (Int × Int) TS := if s.is word then adv s else .error (301, s.pos)
def Jj6 (lvl : Nat) (s : TS) : Option Int :=
 match lvl with
 | 0 => if s.is (Ja3 19) then some 19 else none
 | 1 => if s.is (Ja3 18) then some 18 else none
 | 3 => if s.is (Ja3 5) then some 5 else if s.is (Ja3 6) then some 6 else none
 | _ => if s.is (Ja3 7) then some 7 else none
def Ji6 : Nat → Nat
 | 0 => 1
 | 1 => 2
 | 3 => 4
 | _ => 5
def Jk1 (s : TS) : Option Nat := ([11, 12, 13, 14, 15, 16] : List Nat).find? fun k => s.is (Ja3 k)
def Jr4 (s : List UInt8) : Option Nat := (Ja8.findIdx? fun k => decide (k = s)).map (· + 1)
mutual
def rd : Nat → Nat → TS → PR
 | 0, _, s => .error (0, s.pos)
 | n + 1, lvl, s =>
  match lvl with
  | 2 =>
   if s.is (Ja3 17) then do
    let s ← adv s
    let (t, s) ← rd n 2 s
    .ok (.n1 17 0 [] t, s)
   else do
    let (t, s) ← rd n 3 s
    match Jk1 s with
    | some op => do
     let s ← adv s
     let (u, s) ← rd n 3 s
     .ok (.n2 op 0 [] t u, s)
    | none => .ok (t, s)
  | 0 | 1 | 3 | 4 => do
   let (t, s) ← rd n (Ji6 lvl) s
   rw n lvl t s
  | _ =>
   match s with
   | .tok t _ =>
    if 0 ≤ t.num then do
     let s ← adv s
     .ok (.n0 1 t.num [], s)
    else if s.is (Ja3 4) then do
     let s ← adv s
     let (u, s) ← rd n 5 s
     .ok (.n1 4 0 [] u, s)
    else if s.is [40] then do
     let s ← adv s
     let (u, s) ← rd n 0 s
     let s ← Jc4 s [41]
     .ok (u, s)
    else match Jr4 t.text with
     | some k => do
      let s ← adv s
      .ok (.n0 1 k [], s)
     | none =>
      if opOf t.text ≠ 0 then wd n (opOf t.text) s
      else if Jc5 t.text then do
       let s ← adv s
       .ok (.n0 2 0 t.text, s)
      else .error (301, t.at_)
   | s => .error (301, s.pos)
def rw : Nat → Nat → QT → TS → PR
 | 0, _, _, s => .error (0, s.pos)
 | n + 1, lvl, t, s =>
  match Jj6 lvl s with
  | none => .ok (t, s)
  | some op => do
   let s ← adv s
   let (u, s) ← rd n (Ji6 lvl) s
   rw n lvl (.n2 op 0 [] t u) s
def wd : Nat → Nat → TS → PR
 | 0, _, s => .error (0, s.pos)
 | n + 1, op, s =>
  if op = 3 then do
   let s ← adv s
   .ok (.n0 3 0 [], s)
  else if Jb6 op then do
   let s ← adv s
   match s with
   | .tok t r =>
    if 0 ≤ t.num ∨ Jc5 t.text = false then .error (301, t.at_)
    else do
     let s ← adv (.tok t r)
     let s ← Jc4 s [58]
     let (u, s) ← rd n 0 s
     .ok (.n1 op 0 t.text u, s)
   | s => .error (301, s.pos)
  else if Jm0 op then do
   let s ← adv s
   let s ← Jc4 s [40]
   let (u, s) ← rd n 0 s
   if Jc7 op = 1 then do
    let s ← Jc4 s [41]
    .ok (.n1 op 0 [] u, s)
   else do
    let s ← Jc4 s [44]
    let (v, s) ← rd n 0 s
    let s ← Jc4 s [41]
    .ok (.n2 op 0 [] u v, s)
  else .error (301, s.pos)
end
def Ja4 (txt : List UInt8) : Except (Int × Int) QT :=
 if 4096 < txt.length then .error (3, 4096)
 else match lex txt 0 with
  | .bad i => .error (300, i)
  | s => do
   let (t, s) ← rd (20 * txt.length + 20) 0 s
   match s with
   | .tok u _ => .error (301, u.at_)
   | _ => if 64 < t.depth then .error (302, 0) else .ok t
end Go.Vc

namespace Go.Vc
structure QW where
 n : Nat
 part : Int → Int → Int
 bef : Int → Int → Bool
 race : Int → Int → Bool
def trI (b : Bool) : Int := if b then 1 else 0
def Qj5 (W : QW) (op x y : Int) : Int :=
 if op = 5 then IntKind.i64.wrap (x + y) else if op = 6 then IntKind.i64.wrap (x - y) else if op = 7 then IntKind.i64.wrap (x * y)
 else if op = 11 then trI (decide (x < y)) else if op = 12 then trI (decide (x ≤ y)) else if op = 13 then trI (decide (x = y))
 else if op = 14 then trI (!decide (x = y)) else if op = 15 then trI (decide (y ≤ x)) else if op = 16 then trI (decide (y < x))
 else if op = 20 then trI (W.bef x y) else trI (W.race x y)
def oneV (W : QW) (op x : Int) : Int :=
 if op = 4 then IntKind.i64.wrap (0 - x) else if op = 17 then IntKind.i64.wrap (1 - x) else W.part op x
def Je5 (op : Int) (f : Int → Int × Nat) : List Int → Int → Int × Nat
 | [], c => (if op = 23 then 1 else if op = 25 ∨ op = 26 then -1 else c, 0)
 | i :: r, c =>
  if op = 23 ∧ (f i).1 ≠ 1 then (0, (f i).2)
  else if op = 22 ∧ (f i).1 = 1 then (1, (f i).2)
  else if (op = 25 ∨ op = 26) ∧ (f i).1 = 1 then (i, (f i).2)
  else ((Je5 op f r (c + trI (decide ((f i).1 = 1)))).1, (f i).2 + (Je5 op f r (c + trI (decide ((f i).1 = 1)))).2)
def evs (W : QW) (op : Int) : List Int := if op = 26 then ((List.range W.n).map fun (i : Nat) => ((W.n - 1 - i : Nat) : Int)) else (List.range W.n).map fun (i : Nat) => (i : Int)
def setV (σ : List UInt8 → Int) (name : List UInt8) (i : Int) : List UInt8 → Int := fun s => if s = name then i else σ s
def evq (W : QW) : QT → (List UInt8 → Int) → Int × Nat
 | .n0 op num name, σ => (if op = 1 then num else if op = 2 then σ name else W.n, 1)
 | .n1 op _ name a, σ =>
  if 22 ≤ op then ((Je5 op (fun i => evq W a (setV σ name i)) (evs W op) 0).1, 1 + (Je5 op (fun i => evq W a (setV σ name i)) (evs W op) 0).2)
  else (oneV W op (evq W a σ).1, 1 + (evq W a σ).2)
 | .n2 op _ _ a b, σ =>
  if op = 18 then (if (evq W a σ).1 = 1 then (trI (decide ((evq W b σ).1 = 1)), 1 + (evq W a σ).2 + (evq W b σ).2) else (0, 1 + (evq W a σ).2))
  else if op = 19 then (if (evq W a σ).1 = 1 then (1, 1 + (evq W a σ).2) else (trI (decide ((evq W b σ).1 = 1)), 1 + (evq W a σ).2 + (evq W b σ).2))
  else (Qj5 W op (evq W a σ).1 (evq W b σ).1, 1 + (evq W a σ).2 + (evq W b σ).2)
def ofO (op : Nat) : Int := if op ≤ 3 then 0 else if op = 17 ∨ op = 18 ∨ op = 19 ∨ 22 ≤ op then 2 else 1
def Jb2 (op : Nat) : Int := if op = 0 then 0 else if op ≤ 10 ∨ 24 ≤ op then 1 else 2
def ownQ (op num : Int) (name : List UInt8) : Bool :=
 decide (1 ≤ op) && decide (op ≤ 26) && decide (0 ≤ num) && (decide (num = 0) || decide (op = 1)) &&
  (if Jb6 op.toNat || decide (op = 2) then Jc5 name else decide (name = []))
def Jg5 : Nat → Nat → List QN → Option (QT × List QN)
 | 0, _, _ => none
 | _ + 1, _, [] => none
 | f + 1, above, x :: r =>
  if 64 < above then none
  else if ownQ x.op x.num x.name = false then none
  else if Jc7 x.op.toNat = 0 then (if x.size = 1 then some (.n0 x.op x.num x.name, r) else none)
  else match Jg5 f (above + 1) r with
   | none => none
   | some (a, r1) =>
    if Jc7 x.op.toNat = 1 then (if x.size = 1 + a.size then some (.n1 x.op x.num x.name a, r1) else none)
    else match Jg5 f (above + 1) r1 with
     | none => none
     | some (b, r2) => if x.size = 1 + a.size + b.size then some (.n2 x.op x.num x.name a b, r2) else none
def Jh1 (l : List QN) : Option QT :=
 match Jg5 66 0 l with
 | some (t, []) => some t
 | _ => none
def Jd9 : QT → List (List UInt8) → Bool
 | .n0 op _ name, l => if op = 2 then l.contains name else true
 | .n1 op _ name a, l => Jd9 a (if 22 ≤ op then l ++ [name] else l)
 | .n2 _ _ _ a b, l => Jd9 a l && Jd9 b l
def Jd7 : QT → Bool
 | .n0 .. => true
 | .n1 op _ _ a => decide (Jb2 a.op.toNat = ofO op.toNat) && Jd7 a
 | .n2 op _ _ a b => (decide (Jb2 a.op.toNat = ofO op.toNat) && Jd7 a) && (decide (Jb2 b.op.toNat = ofO op.toNat) && Jd7 b)
def Jh9 (l : List QN) : Except Int QT :=
 match Jh1 l with
 | none => .error 305
 | some t => if Jd9 t [] = false then .error 303 else if Jd7 t = false then .error 304 else .ok t
end Go.Vc

namespace Go.Vc
theorem Qd0 {i : Nat} {c : UInt8} {r : List UInt8} {t : Tok} (h : tok1 i (c :: r) = some t) : 1 ≤ t.text.length ∧ t.text.length ≤ r.length + 1 ∧ t.at_ = i ∧ t.text = (c :: r).take t.text.length := by
 simp only [tok1] at h
 split at h
 ·cases h
  have := (List.takeWhile_prefix (p := fun c => Jb0 c || Jb3 c) (l := r))
  refine ⟨sI, by simp; exact this.length_le, rfl, ?_⟩
  simp only [List.length_cons, List.take_succ_cons, List.cons.injEq, true_and]
  exact (List.prefix_iff_eq_take.1 this)
 ·split at h
  ·simp only [Option.map_eq_some_iff] at h
   obtain ⟨n, _, rfl⟩ := h
   have := (List.takeWhile_prefix (p := Jb3) (l := r))
   refine ⟨sI, by simp; exact this.length_le, rfl, ?_⟩
   simp only [List.length_cons, List.take_succ_cons, List.cons.injEq, true_and]
   exact (List.prefix_iff_eq_take.1 this)
  ·split at h
   ·cases h
   ·rename_i hm
    cases h
    refine ⟨?_, by simp [List.length_take]; omega, rfl, sI⟩
    simp only [List.length_take, List.length_cons]; omega
theorem Qe2 (l : List UInt8) : Jl3 l ≤ l.length := (List.takeWhile_prefix (p := Jn2) (l := l)).length_le
theorem lexF_fuel : ∀ (f f' i : Nat) (l : List UInt8), l.length < f → l.length < f' → lexF f i l = lexF f' i l
 | 0, _, _, _, h, _ => oM
 | f + 1, 0, _, _, _, h => oM
 | f + 1, f' + 1, i, l, h, h' => by
  unfold lexF
  split
  ·rfl
  ·rename_i c r hd
   have hl : r.length + 1 + Jl3 l = l.length := by
    have h1 := congrArg List.length hd
    have h2 := Qe2 l
    simp at h1; omega
   split
   ·rfl
   ·rename_i t ht
    obtain ⟨h1, h2, _, _⟩ := Qd0 ht
    rw [lexF_fuel f f' _ _ (by simp; omega) (by simp; omega)]
theorem Jm5 {txt : List UInt8} {i : Nat} (hi : i ≤ txt.length) : lex txt i = match txt.drop (i + Jl3 (txt.drop i)) with
  | [] => .stop (i + Jl3 (txt.drop i))
  | c :: r => match tok1 (i + Jl3 (txt.drop i)) (c :: r) with
   | none => .bad (i + Jl3 (txt.drop i))
   | some t => .tok t (lex txt (i + Jl3 (txt.drop i) + t.text.length)) := by
 unfold lex
 rw [show txt.length + 1 - i = (txt.length - i) + 1 by omega, lexF, List.drop_drop]
 cases hd : txt.drop (i + Jl3 (txt.drop i)) with
 | nil => rfl
 | cons c r =>
  have hl : i + Jl3 (txt.drop i) + (r.length + 1) = txt.length := by
   have h1 := congrArg List.length hd
   have h2 := Qe2 (txt.drop i)
   simp only [List.length_drop, List.length_cons] at h1 h2; omega
  dsimp only
  cases ht : tok1 (i + Jl3 (txt.drop i)) (c :: r) with
  | none => rfl
  | some t =>
   dsimp only
   obtain ⟨h1, h2, _, _⟩ := Qd0 ht
   rw [← hd, List.drop_drop]
   congr 1
   exact lexF_fuel _ _ _ _ (by simp only [List.length_drop]; omega) (by simp only [List.length_drop]; omega)
theorem lex_tok {txt : List UInt8} {i : Nat} (hi : i ≤ txt.length) {t : Tok} {r : TS} (h : lex txt i = .tok t r) : i ≤ t.at_ ∧ t.at_ + t.text.length ≤ txt.length ∧ 1 ≤ t.text.length ∧ r = lex txt (t.at_ + t.text.length) ∧ t.text = (txt.drop t.at_).take t.text.length := by
 rw [Jm5 hi] at h
 split at h
 ·cases h
 ·rename_i c r' hd
  split at h
  ·cases h
  ·rename_i u hu
   injection h with h1 h2
   subst h1
   obtain ⟨g1, g2, g3, g4⟩ := Qd0 hu
   have hl : i + Jl3 (txt.drop i) + (r'.length + 1) = txt.length := by
    have h1 := congrArg List.length hd
    have h2 := Qe2 (txt.drop i)
    simp at h1 h2; omega
   rw [g3, hd]
   exact ⟨oM, oM, g1, h2.symm, g4⟩
theorem Qg3 {txt : List UInt8} : ∀ (n i : Nat), i ≤ txt.length → txt.length - i ≤ n → (lex txt i).len ≤ txt.length - i
 | 0, i, hi, hn => by
  rw [Jm5 hi, show i = txt.length by omega, List.drop_length]
  simp [Jl3, TS.len]
 | n + 1, i, hi, hn => by
  cases h : lex txt i with
  | stop j => simp [TS.len]
  | bad j => simp [TS.len]
  | tok t r =>
   obtain ⟨h1, h2, h3, h4, _⟩ := lex_tok hi h
   subst h4
   have := Qg3 n (t.at_ + t.text.length) h2 oM
   simp only [TS.len]; omega
end Go.Vc

namespace Go.Vc
open Go Go.Proofs
set_option maxRecDepth 20000
section
variable {w : World}
abbrev Y (c : UInt8) : Value := .int .u8 (c.toNat : Int)
theorem Qa8 (c : UInt8) : Jb0 c = (decide ((97 : Int) ≤ c.toNat) && decide ((c.toNat : Int) ≤ 122)) := by
 unfold Jb0
 congr 1 <;> rw [decide_eq_decide, UInt8.le_iff_toNat_le] <;> simp <;> omega
theorem Js5 (c : UInt8) : Jb3 c = (decide ((48 : Int) ≤ c.toNat) && decide ((c.toNat : Int) ≤ 57)) := by
 unfold Jb3
 congr 1 <;> rw [decide_eq_decide, UInt8.le_iff_toNat_le] <;> simp <;> omega
theorem Qn4 (c : UInt8) : Ret Tryz.prog 77 [Y c] w (fun v w' => v = .bool (Jb0 c) ∧ w' = w) := by
 rw [Qa8]
 refine Ze Tryz.call77 Tryz.func77 ?_
 refine zS ?_
 refine Ja5 _ _ rfl rfl rfl (fun h => ?_) (fun h => ?_)
 ·refine zS ?_
  exact ⟨_, rfl, by rw [h]; rfl, rfl⟩
 ·refine zS ?_
  exact ⟨_, rfl, by rw [h]; rfl, rfl⟩
theorem Qf2 (c : UInt8) : Ret Tryz.prog 78 [Y c] w (fun v w' => v = .bool (Jb3 c) ∧ w' = w) := by
 rw [Js5]
 refine Ze Tryz.call78 Tryz.func78 ?_
 refine zS ?_
 refine Ja5 _ _ rfl rfl rfl (fun h => ?_) (fun h => ?_)
 ·refine zS ?_
  exact ⟨_, rfl, by rw [h]; rfl, rfl⟩
 ·refine zS ?_
  exact ⟨_, rfl, by rw [h]; rfl, rfl⟩
def refV (c i : Int) : Value := .iface 97 (.agg #[I c, I i])
abbrev pC (txt : List UInt8) (i : Nat) (k : Tok) : List Value := [S txt, I i, S k.text, I k.num, I k.at_]
abbrev PB (w : World) (p : Nat) (txt : List UInt8) (i : Nat) (k : Tok) : Prop := Blk w p (pC txt i k) 103
theorem Jp2 (c i : Int) (R : Value → World → Prop) : RetP Tryz.prog 79 [I c, I i] w R (fun v w' => v = refV c i ∧ w' = w) := by
 refine Zp Tryz.call79 Tryz.func79 ?_
 refine zS ?_
 refine Zb [I c, I i] ?_
 refine zS ?_
 refine Zb [I c, I i] ?_
 refine o_iface rfl rfl rfl rfl rfl ?_
 refine o_panic rfl rfl ?_
 exact ⟨rfl, rfl⟩
end
section
variable {w : World} {p : Nat} {txt : List UInt8} {i : Nat} {k : Tok}
theorem Jz5 (h : PB w p txt i k) (R : Value → World → Prop) : RetP Tryz.prog 43 [ptr p] w R (fun v w' => v = refV 301 k.at_ ∧ w' = w) := by
 refine Zp Tryz.call43 Tryz.func43 ?_
 refine zL h ?_
 exact Jb7 (Jp2 _ _ (fun _ _ => False)) rfl rfl rfl (fun v w' h => h) (fun v w' h => h.elim)
theorem chr_get {l : List UInt8} {i : Nat} (hi : i < l.length) : l.drop i = l.getD i 0 :: l.drop (i + 1) := by
 rw [List.drop_eq_getElem_cons hi, List.getD_eq_getElem?_getD, List.getElem?_eq_getElem hi]; rfl
theorem head_drop {l : List UInt8} {i : Nat} : (l.drop i).head? = l[i]? := by rw [List.head?_drop]
theorem u8_33 (c : UInt8) : ((c.toNat : Int) = 33) ↔ c = 33 := by rw [← UInt8.toNat_inj]; simp <;> omega
theorem u8_60 (c : UInt8) : ((c.toNat : Int) = 60) ↔ c = 60 := by rw [← UInt8.toNat_inj]; simp <;> omega
theorem u8_62 (c : UInt8) : ((c.toNat : Int) = 62) ↔ c = 62 := by rw [← UInt8.toNat_inj]; simp <;> omega
theorem u8_61 (c : UInt8) : ((c.toNat : Int) = 61) ↔ c = 61 := by rw [← UInt8.toNat_inj]; simp <;> omega
def oneB (c : UInt8) : Prop := c = 40 ∨ c = 41 ∨ c = 44 ∨ c = 58 ∨ c = 43 ∨ c = 45 ∨ c = 42 ∨ c = 61
theorem oneB_iff (c : UInt8) : oneB c ↔ ((c.toNat : Int) = 40 ∨ (c.toNat : Int) = 41 ∨ (c.toNat : Int) = 44 ∨ (c.toNat : Int) = 58 ∨ (c.toNat : Int) = 43 ∨ (c.toNat : Int) = 45 ∨ (c.toNat : Int) = 42 ∨ (c.toNat : Int) = 61) := by
 unfold oneB
 simp only [← UInt8.toNat_inj]
 simp
 omega
instance (c : UInt8) : Decidable (oneB c) := by unfold oneB; infer_instance
theorem mark_at (hi : i < txt.length) : Jc2 (txt.drop i) = (if txt.getD i 0 = 33 then (if txt[i + 1]? = some 61 then 2 else 0) else if txt.getD i 0 = 60 ∨ txt.getD i 0 = 62 then (if txt[i + 1]? = some 61 then 2 else 1) else if oneB (txt.getD i 0) then 1 else 0) := by
 rw [chr_get hi]
 simp only [Jc2, head_drop]
 rfl
theorem mark_ret (h : PB w p txt i k) (hl : txt.length ≤ 4096) (hi : i < txt.length) :
  RetP Tryz.prog 80 [ptr p, Y (txt.getD i 0)] w (fun v w' => v = .tuple #[] ∧ Jc2 (txt.drop i) ≠ 0 ∧ PB w' p txt (i + Jc2 (txt.drop i)) k ∧ Kp [p] w w')
   (fun v w' => Jc2 (txt.drop i) = 0 ∧ v = refV 300 i ∧ Kp [p] w w') := by
 have hml := mark_at hi
 generalize txt.getD i 0 = c at hml ⊢
 refine Zp Tryz.call80 Tryz.func80 ?_
 refine Ja9 ?_
 refine Jr3 [0, 1] [ptr p, Y c] 4 (decide (txt[i + 1]? = some 61)) (fun W => Sm w W) ?_ ?_
 ·refine Jd1 Ja0 kR ?_
  refine zM h ?_
  refine Ji0 _ _ rfl rfl rfl (fun h1 => ?_) (fun h1 => ?_)
  ·have h1 : ((i : Int) + 1) < txt.length := of_decide_eq_true h1
   refine zM h ?_
   intro w' hs
   refine ⟨rfl, ⟨_, rfl, ?_⟩, hs⟩
   rw [decide_eq_decide, u8_61, show ((i : Int) + 1).toNat = i + 1 by omega, List.getD_eq_getElem?_getD, List.getElem?_eq_getElem oM]
   simp
  ·have h1 : ¬ ((i : Int) + 1) < txt.length := of_decide_eq_false h1
   refine zM h ?_
   intro w' hs
   refine ⟨rfl, ⟨_, rfl, ?_⟩, hs⟩
   rw [List.getElem?_eq_none oM]
   simp
 intro e w1 hs
 have h1 : PB w1 p txt i k := hs.blk h
 have k1 : Kp [p] w w1 := hs.kp [p]
 generalize hz : txt[i + 1]? = z at hml ⊢
 have last : ∀ (m : Nat) (w2 : World), PB w2 p txt (i + m) k → Kp [p] w w2 → Jc2 (txt.drop i) = m + 1 → ∀ w3, Upd w2 p (.cells ⟨(pC txt (i + m) k).set 1 (I (((i + m : Nat) : Int) + 1))⟩ 103 (0, 0)) w3 → Jc2 (txt.drop i) ≠ 0 ∧ PB w3 p txt (i + Jc2 (txt.drop i)) k ∧ Kp [p] w w3 := by
  intro m w2 hB hk hm w3 hu
  refine ⟨oM, ?_, hk.trans (hu.kp [p] (.inl sI))⟩
  have := hu.blk
  rw [hm, show ((i + (m + 1) : Nat) = i + m + 1) by omega]
  show Blk w3 p [S txt, I ((i + m + 1 : Nat) : Int), S k.text, I k.num, I k.at_] _
  rw [Int.natCast_add]
  exact this
 refine zS ?_
 refine Ja9 ?_
 refine Ja9 ?_
 refine zS ?_
 refine r_if rfl (fun hc => ?_) (fun hc => ?_)
 ·rw [u8_33] at hc
  rw [if_pos hc] at hml
  refine zS ?_
  refine Jn8 rfl (fun h2 => ?_) (fun h2 => ?_)
  ·rw [if_neg h2] at hml
   refine zL h1 ?_
   exact Jb7 (Jp2 _ _ (fun _ _ => False)) rfl rfl rfl (fun v w' ⟨h, h'⟩ => ⟨hml, h, h' ▸ k1⟩) (fun v w' h => h.elim)
  ·rw [if_pos h2] at hml
   refine zS ?_
   refine Jf7 rfl (by simpa using h2) ?_
   refine zL h1 ?_
   refine Zt (b := p) (off := 1) (v := I ((i : Int) + 1)) rfl h1 sI ?_
   intro w2 hu2
   have h2 : PB w2 p txt (i + 1) k := hu2.blk
   refine zL h2 ?_
   refine Zt (b := p) (off := 1) (v := I (((i + 1 : Nat) : Int) + 1)) rfl h2 sI ?_
   intro w3 hu3
   refine zS ?_
   exact ⟨_, rfl, rfl, last 1 w2 h2 (k1.trans (hu2.kp [p] (.inl sI))) hml w3 hu3⟩
 ·rw [u8_33] at hc
  rw [if_neg hc] at hml
  refine zS ?_
  refine Ja9 ?_
  refine Ja9 ?_
  refine Jr3 [0, 4, 29] [ptr p, .bool (decide (z = some 61)), Y c] 32 (decide (c = 60 ∨ c = 62)) (fun W => W = w1) ?_ ?_
  ·refine zS ?_
   refine r_if rfl (fun h2 => ?_) (fun h2 => ?_)
   ·refine zS ?_
    exact ⟨rfl, ⟨_, rfl, by rw [decide_eq_decide, ← u8_60]; simp [h2]⟩, rfl⟩
   ·refine zS ?_
    exact ⟨rfl, ⟨_, rfl, by rw [decide_eq_decide, ← u8_60, ← u8_62]; simp [h2]⟩, rfl⟩
  rintro e2 w1' rfl
  refine zS ?_
  refine r_if rfl (fun h2 => ?_) (fun h2 => ?_)
  ·rw [if_pos h2] at hml
   refine zS ?_
   refine r_if rfl (fun h3 => ?_) (fun h3 => ?_)
   ·rw [if_pos h3] at hml
    refine zL h1 ?_
    refine Zt (b := p) (off := 1) (v := I ((i : Int) + 1)) rfl h1 sI ?_
    intro w2 hu2
    have h2 : PB w2 p txt (i + 1) k := hu2.blk
    refine zL h2 ?_
    refine Zt (b := p) (off := 1) (v := I (((i + 1 : Nat) : Int) + 1)) rfl h2 sI ?_
    intro w3 hu3
    refine zS ?_
    exact ⟨_, rfl, rfl, last 1 w2 h2 (k1.trans (hu2.kp [p] (.inl sI))) hml w3 hu3⟩
   ·rw [if_neg h3] at hml
    refine zL h1 ?_
    refine Zt (b := p) (off := 1) (v := I (((i + 0 : Nat) : Int) + 1)) rfl h1 sI ?_
    intro w3 hu3
    refine zS ?_
    exact ⟨_, rfl, rfl, last 0 w1' h1 k1 hml w3 hu3⟩
  ·rw [if_neg h2] at hml
   refine zk ?_
   refine Ja9 ?_
   refine Jr3 [0, 4, 29] [ptr p, .bool (decide (z = some 61)), Y c] 35 (decide (oneB c)) (fun W => W = w1') ?_ ?_
   ·have fin : ∀ b : Bool, (b = true ↔ oneB c) → b = decide (oneB c) := fun b hb => by rw [Bool.eq_iff_iff, hb, decide_eq_true_eq]
    simp only [oneB_iff] at fin ⊢
    refine zS ?_
    refine r_if rfl (fun q1 => ?_) (fun q1 => ?_)
    ·refine zS ?_
     exact ⟨rfl, ⟨_, rfl, by simp [q1]⟩, rfl⟩
    refine zS ?_
    refine r_if rfl (fun q2 => ?_) (fun q2 => ?_)
    ·refine zS ?_
     exact ⟨rfl, ⟨_, rfl, by simp [q2]⟩, rfl⟩
    refine zS ?_
    refine r_if rfl (fun q3 => ?_) (fun q3 => ?_)
    ·refine zS ?_
     exact ⟨rfl, ⟨_, rfl, by simp [q3]⟩, rfl⟩
    refine zS ?_
    refine r_if rfl (fun q4 => ?_) (fun q4 => ?_)
    ·refine zS ?_
     exact ⟨rfl, ⟨_, rfl, by simp [q4]⟩, rfl⟩
    refine zS ?_
    refine r_if rfl (fun q5 => ?_) (fun q5 => ?_)
    ·refine zS ?_
     exact ⟨rfl, ⟨_, rfl, by simp [q5]⟩, rfl⟩
    refine zS ?_
    refine r_if rfl (fun q6 => ?_) (fun q6 => ?_)
    ·refine zS ?_
     exact ⟨rfl, ⟨_, rfl, by simp [q6]⟩, rfl⟩
    refine zS ?_
    refine r_if rfl (fun q7 => ?_) (fun q7 => ?_)
    ·refine zS ?_
     exact ⟨rfl, ⟨_, rfl, by simp [q7]⟩, rfl⟩
    refine zS ?_
    exact ⟨rfl, ⟨_, rfl, by simp [q1, q2, q3, q4, q5, q6, q7]⟩, rfl⟩
   rintro e3 w2 rfl
   refine zS ?_
   refine r_if rfl (fun h3 => ?_) (fun h3 => ?_)
   ·rw [if_pos h3] at hml
    refine zL h1 ?_
    refine Zt (b := p) (off := 1) (v := I (((i + 0 : Nat) : Int) + 1)) rfl h1 sI ?_
    intro w3 hu3
    refine zS ?_
    exact ⟨_, rfl, rfl, last 0 w2 h1 k1 hml w3 hu3⟩
   ·rw [if_neg h3] at hml
    refine zL h1 ?_
    exact Jb7 (Jp2 _ _ (fun _ _ => False)) rfl rfl rfl (fun v w' ⟨h, h'⟩ => ⟨hml, h, h' ▸ k1⟩) (fun v w' h => h.elim)
end
end Go.Vc
