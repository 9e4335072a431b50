/- order: an order in memory; Before, Aside, Past. -/
import Derived.Test.YtkgjibhbhddckaaDoorQClKPlays30
import Derived.Test.YtkgjibhbhddckaaDoorQClKPlays16
import Derived.ArgAppend
import Derived.Test.YtkgjibhbhddckaaDoorQClKPlays15
import Derived.Test.YtkgjibhbhddckaaDoorQClKPlays6
import Derived.Scope
import Derived.Test.YtkgjibhbhddckaaDoorQClKPlays25
namespace Go.Vc
open Go Go.Proofs
set_option maxRecDepth 10000
variable {w : World}
def OrG.F (g : OrG) : List Nat := g.p :: (blkOf g.ead ++ (blkOf g.rad ++ relBlks g.rp g.mad g.bs))
structure OrAt (w : World) (g : OrG) (E : List Ev) (R : List Int) : Prop extends OrB w g E R where
  rel : ZAt w g.rp E.length g.bs g.M g.mad g.mcap
  bits : ∀ i j, bitM g.M i j = true ↔ Ch (lk E R) i j
  fl : ∀ b, b ∈ g.F → b < w.heap.size
theorem OrAt.kp {w' : World} {S : List Nat} {g : OrG} {E : List Ev} {R : List Int} (h : OrAt w g E R) (hk : Kp S w w') (hS : ∀ b, b ∈ g.F → b ∉ S) : OrAt w' g E R :=
  ⟨h.toOrB.kp hk (fun b hb => hS b (by
    simp only [OrG.F, List.mem_cons, List.mem_append] at hb ⊢
    rcases hb with rfl | hb | hb
    · exact .inl rfl
    · exact .inr (.inl hb)
    · exact .inr (.inr (.inl hb)))), h.rel.kp hk (fun b hb => hS b (by simp [OrG.F, hb])), h.bits, fun b hb => Nat.lt_of_lt_of_le (h.fl b hb) hk.size⟩
theorem OrAt.kp0 {w' : World} {g : OrG} {E : List Ev} {R : List Int} (h : OrAt w g E R) (hk : Kp [] w w') : OrAt w' g E R := h.kp hk (by simp)
theorem OrAt.sm {w' : World} {g : OrG} {E : List Ev} {R : List Int} (h : OrAt w g E R) (hk : Sm w w') : OrAt w' g E R := h.kp0 (hk.kp [])
section
variable {g : OrG} {E : List Ev} {R : List Int}
noncomputable def asideB (E : List Ev) (R : List Int) (i j : Int) : Bool := decide (0 ≤ i ∧ i < E.length) && (decide (0 ≤ j ∧ j < E.length) && (decide (i ≠ j) && (!befI E R i j && !befI E R j i)))
end
end Go.Vc
/- order: New. -/
namespace Go.Vc
open Go Go.Proofs
set_option maxRecDepth 10000
variable {w : World}
/-! ### The model of a run -/
def runC (s : Shp) (l : List Ev) (i : Nat) : Ck := (l.take i).foldl (nextC s) (newC s)
def okTo (s : Shp) (l : List Ev) (i : Nat) : Prop := ∀ j x, j < i → l[j]? = some x → canB s (runC s l j) x = true
def rnd (c : Ck) (x : Ev) : Int := if x.k = 10 then (st c x.t).ro else if x.k = 9 then (opIn c x.o).1 else 0
def rnds (s : Shp) (l : List Ev) (i : Nat) : List Int := (List.range i).map fun j => rnd (runC s l j) (evA l j)
def badO (s : Shp) (l : List Ev) (e : Int) : Prop := (e = 5 ∧ shapeB s = false) ∨ (e = 3 ∧ shapeB s = true ∧ 2048 < l.length) ∨ (e = 6 ∧ shapeB s = true ∧ l.length ≤ 2048 ∧ ¬ okTo s l l.length)
/-- so many links -/
def InTo (E : List Ev) (R : List Int) (j i : Nat) (a b : Nat) : Prop := (b < j ∨ (b = j ∧ a < i)) ∧ lk E R a b
instance (E : List Ev) (R : List Int) (j i a b : Nat) : Decidable (InTo E R j i a b) := inferInstanceAs (Decidable (_ ∧ _))
theorem ZTo.kp0 {w1 w2 : World} {p n : Nat} {bs : List Nat} {ad : Option Addr} {cap : Nat} {M1 : List (List Nat)} (h : ZTo w p n bs ad cap w1 M1) (k : Kp [] w1 w2) : ZTo w p n bs ad cap w2 M1 := ⟨h.at_.kp0 k, h.kp.trans (k.mono (by simp))⟩
end Go.Vc
/- order: Past. -/
namespace Go.Vc
open Go Go.Proofs
set_option maxRecDepth 10000
variable {w : World}
section
variable {g : OrG} {E : List Ev} {R : List Int}
noncomputable def pastB (E : List Ev) (R : List Int) (i k : Int) : Bool := decide (k = i) || befI E R i k
noncomputable def pastL (E : List Ev) (R : List Int) (ks : List Int) (n : Nat) : List Int := ((List.range n).filter fun i : Nat => ks.any fun k => pastB E R i k).map fun i : Nat => (i : Int)
end
end Go.Vc
/- chains of least length: the plain law. No program. -/
namespace Go.Vc
/-- a way of so many links to j -/
inductive Pn (L : Nat → Nat → Prop) (j : Nat) : Nat → Nat → Prop
  | zero : Pn L j 0 j
  | succ {n k m : Nat} : L k m → Pn L j n m → Pn L j (n + 1) k
def Di (L : Nat → Nat → Prop) (j k n : Nat) : Prop := Pn L j n k ∧ ∀ m, m < n → ¬ Pn L j m k
/-- from each on to the least that is nearer -/
inductive ChainR (L : Nat → Nat → Prop) (j : Nat) : Nat → List Nat → Prop
  | done : ChainR L j j [j]
  | step {k m n : Nat} {l : List Nat} : Di L j k (n + 1) → k < m → L k m → Di L j m n → (∀ m', k < m' → m' < m → ¬ (L k m' ∧ Di L j m' n)) → ChainR L j m l → ChainR L j k (k :: l)
section
variable {L : Nat → Nat → Prop} {j : Nat}
theorem Di.uniq {k n m : Nat} (h : Di L j k n) (g : Di L j k m) : n = m := by
  rcases Nat.lt_trichotomy n m with q | q | q
  · exact absurd h.1 (g.2 n q)
  · exact q
  · exact absurd g.1 (h.2 m q)
theorem Di.self : Di L j j 0 := ⟨.zero, fun m hm => by omega⟩
theorem Pn.di {n k : Nat} (h : Pn L j n k) : ∃ m, m ≤ n ∧ Di L j k m := by
  induction n using Nat.strongRecOn generalizing k with
  | _ n ih =>
    by_cases q : ∃ m, m < n ∧ Pn L j m k
    · obtain ⟨m, hm, hp⟩ := q
      obtain ⟨m', h1, h2⟩ := ih m hm hp
      exact ⟨m', by omega, h2⟩
    · exact ⟨n, Nat.le_refl _, h, fun m hm hp => q ⟨m, hm, hp⟩⟩
theorem Di.next {k n : Nat} (h : Di L j k (n + 1)) : ∃ m, L k m ∧ Di L j m n := by
  obtain ⟨hp, hmin⟩ := h
  cases hp with
  | succ hl hm =>
    rename_i m
    exact ⟨m, hl, hm, fun m' hm' hp' => hmin (m' + 1) (by omega) (.succ hl hp')⟩
theorem ChainR.uniq {k : Nat} {l l' : List Nat} (h : ChainR L j k l) (g : ChainR L j k l') : l = l' := by
  induction h generalizing l' with
  | done =>
    cases g with
    | done => rfl
    | step h1 => exact absurd .zero (h1.2 0 (by omega))
  | step h1 h2 h3 h4 h5 h6 ih =>
    cases g with
    | done => exact absurd .zero (h1.2 0 (by omega))
    | step g1 g2 g3 g4 g5 g6 =>
      rename_i k m n l m' n' l'
      have e := h1.uniq g1
      have e : n = n' := by omega
      subst e
      have em : m = m' := by
        rcases Nat.lt_trichotomy m m' with q | q | q
        · exact absurd ⟨h3, h4⟩ (g5 m h2 q)
        · exact q
        · exact absurd ⟨g3, g4⟩ (h5 m' g2 q)
      subst em
      rw [ih g6]
variable (hL : ∀ a b, L a b → a < b)
include hL
theorem Pn.le {n k : Nat} (h : Pn L j n k) : k + n ≤ j := by
  induction h with
  | zero => omega
  | succ hl _ ih => have := hL _ _ hl; omega
omit hL in
theorem nodup_bound : ∀ (n : Nat) (l : List Nat), l.Nodup → (∀ x ∈ l, x < n) → l.length ≤ n
  | 0, l, _, h => by
    cases l with
    | nil => simp
    | cons x r => have := h x (by simp); omega
  | n + 1, l, hd, h => by
    by_cases hm : n ∈ l
    · have := nodup_bound n (l.erase n) (hd.erase n) (fun x hx => by
        have h1 := (hd.mem_erase_iff).1 hx
        have := h x h1.2
        have := h1.1
        omega)
      rw [List.length_erase_of_mem hm] at this
      omega
    · have := nodup_bound n l hd (fun x hx => by
        have := h x hx
        have : x ≠ n := fun e => hm (e ▸ hx)
        omega)
      omega
end
/-! ### Level by level -/
structure Bf (L : Nat → Nat → Prop) (i j : Nat) (far : Nat → Option Nat) (proc todo : List Nat) : Prop where
  f1 : ∀ k n, far k = some n → Di L j k n ∧ i ≤ k ∧ k ≤ j
  f2 : far j = some 0
  mem : ∀ k, k ∈ proc ++ todo ↔ (far k).isSome = true
  nd : (proc ++ todo).Nodup
  closed : ∀ k ∈ proc, ∀ p, i ≤ p → L p k → (far p).isSome = true
  lev : todo.Pairwise fun a b => (far a).getD 0 ≤ (far b).getD 0
  span : ∀ h ∈ todo.head?, ∀ k ∈ todo, (far k).getD 0 ≤ (far h).getD 0 + 1
section
variable {L : Nat → Nat → Prop} {i j : Nat} {far : Nat → Option Nat} {proc todo : List Nat}
def upN (far : Nat → Option Nat) (k n : Nat) (x : Nat) : Option Nat := if x = k then some n else far x
theorem Bf.start (hij : i ≤ j) : Bf L i j (upN (fun _ => none) j 0) [] [j] where
  f1 := fun k n h => by
    unfold upN at h
    by_cases q : k = j
    · subst q; rw [if_pos rfl] at h; cases h; exact ⟨Di.self, hij, Nat.le_refl _⟩
    · rw [if_neg q] at h; cases h
  f2 := by simp [upN]
  mem := fun k => by
    unfold upN
    by_cases q : k = j
    · simp [q]
    · simp [q]
  nd := by simp
  closed := by simp
  lev := by simp
  span := by simp
/-- all that are as near as the head are met -/
theorem Bf.met {h : Nat} {r : List Nat} {d : Nat} (b : Bf L i j far proc (h :: r)) (hL : ∀ a b, L a b → a < b) (hd : far h = some d) : ∀ n, n ≤ d → ∀ k, i ≤ k → Di L j k n → (far k).isSome = true := by
  intro n
  induction n with
  | zero =>
    intro _ k _ hk
    have := hk.1
    cases this
    rw [b.f2]; rfl
  | succ n ih =>
    intro hn k hik hk
    obtain ⟨m, hl, hm⟩ := hk.next
    have hkm := hL _ _ hl
    have hmet := ih (by omega) m (by omega) hm
    obtain ⟨n', hn'⟩ := Option.isSome_iff_exists.1 hmet
    have e := (b.f1 m n' hn').1.uniq hm
    subst e
    have hin := (b.mem m).2 hmet
    rcases List.mem_append.1 hin with q | q
    · exact b.closed m q k hik hl
    · exfalso
      rcases List.mem_cons.1 q with e | q
      · subst e; rw [hd] at hn'; cases hn'; omega
      · have := (List.pairwise_cons.1 b.lev).1 m q
        rw [hd, hn'] at this
        simp at this; omega
/-- one is met -/
theorem Bf.push {h : Nat} {r : List Nat} {d k : Nat} (b : Bf L i j far proc (h :: r)) (hL : ∀ a b, L a b → a < b) (hd : far h = some d) (hk : far k = none) (hik : i ≤ k) (hl : L k h) : Bf L i j (upN far k (d + 1)) proc (h :: (r ++ [k])) := by
  have hkn : k ∉ proc ++ (h :: r) := fun q => by have := (b.mem k).1 q; rw [hk] at this; cases this
  have hhj := (b.f1 h d hd).2.2
  have hkh := hL _ _ hl
  have hdi : Di L j k (d + 1) := ⟨.succ hl (b.f1 h d hd).1.1, fun m hm hp => by
    obtain ⟨m', h1, h2⟩ := hp.di
    have := b.met hL hd m' (by omega) k hik h2
    rw [hk] at this; cases this⟩
  have old : ∀ x, x ∈ proc ++ (h :: r) → upN far k (d + 1) x = far x := fun x hx => by
    have hne : x ≠ k := fun e => hkn (by rw [← e]; exact hx)
    unfold upN; rw [if_neg hne]
  have oldr : ∀ x, x ∈ h :: r → upN far k (d + 1) x = far x := fun x hx => old x (List.mem_append_right _ hx)
  have e1 : upN far k (d + 1) k = some (d + 1) := by unfold upN; rw [if_pos rfl]
  have hk2 : k ≠ j := fun e => by subst e; rw [b.f2] at hk; cases hk
  refine ⟨fun x n hx => ?_, ?_, fun x => ?_, ?_, fun x hx p hp hlp => ?_, ?_, ?_⟩
  · unfold upN at hx
    by_cases q : x = k
    · subst q; rw [if_pos rfl] at hx; cases hx; exact ⟨hdi, hik, by omega⟩
    · rw [if_neg q] at hx; exact b.f1 x n hx
  · unfold upN; rw [if_neg (fun e => hk2 e.symm)]; exact b.f2
  · unfold upN
    have := b.mem x
    by_cases q : x = k
    · subst q; simp
    · rw [if_neg q, ← this]; simp [q]
  · have e : proc ++ (h :: (r ++ [k])) = (proc ++ (h :: r)) ++ [k] := by simp
    rw [e, List.nodup_append]
    exact ⟨b.nd, by simp, fun x hx y hy => by simp at hy; subst hy; exact fun e => hkn (e ▸ hx)⟩
  · have := b.closed x hx p hp hlp
    unfold upN
    split
    · rfl
    · exact this
  · have e : h :: (r ++ [k]) = (h :: r) ++ [k] := by simp
    rw [e, List.pairwise_append]
    refine ⟨?_, by simp, fun x hx y hy => ?_⟩
    · refine (List.Pairwise.imp_of_mem ?_ b.lev)
      intro x y hx hy hxy
      rw [oldr x hx, oldr y hy]; exact hxy
    · simp at hy; subst hy
      rw [oldr x hx, e1]
      have := b.span h (by simp) x hx
      rw [hd] at this
      simpa using this
  · intro y hy x hx
    simp at hy; subst hy
    rw [oldr h (by simp), hd]
    have hx' : x ∈ h :: r ∨ x = k := by simpa [or_assoc] using hx
    rcases hx' with q | q
    · rw [oldr x q]; have := b.span h (by simp) x q; rw [hd] at this; exact this
    · subst q; rw [e1]; simp
/-- the head is done -/
theorem Bf.pop {h : Nat} {r : List Nat} (b : Bf L i j far proc (h :: r)) (hc : ∀ p, i ≤ p → L p h → (far p).isSome = true) : Bf L i j far (proc ++ [h]) r where
  f1 := b.f1
  f2 := b.f2
  mem := fun k => by have := b.mem k; simp only [List.append_assoc, List.singleton_append]; exact this
  nd := by have := b.nd; simp only [List.append_assoc, List.singleton_append]; exact this
  closed := fun k hk => by
    rcases List.mem_append.1 hk with q | q
    · exact b.closed k q
    · simp at q; subst q; exact hc
  lev := (List.pairwise_cons.1 b.lev).2
  span := fun y hy x hx => by
    have hym : y ∈ r := List.mem_of_mem_head? hy
    have h1 := b.span h (by simp) x (by simp [hx])
    have h2 := (List.pairwise_cons.1 b.lev).1 y hym
    omega
/-- all done: all are met that lead there -/
theorem Bf.whole (b : Bf L i j far proc []) (hL : ∀ a b, L a b → a < b) : ∀ n k, i ≤ k → Di L j k n → far k = some n := by
  intro n
  induction n with
  | zero => intro k _ hk; have := hk.1; cases this; exact b.f2
  | succ n ih =>
    intro k hik hk
    obtain ⟨m, hl, hm⟩ := hk.next
    have hkm := hL _ _ hl
    have hmet := ih m (by omega) hm
    have hin := (b.mem m).2 (by rw [hmet]; rfl)
    rw [List.append_nil] at hin
    obtain ⟨n', hn'⟩ := Option.isSome_iff_exists.1 (b.closed m hin k hik hl)
    rw [hn', (b.f1 k n' hn').1.uniq hk]
theorem Bf.count (b : Bf L i j far proc todo) : proc.length + todo.length ≤ j + 1 := by
  have := nodup_bound (j + 1) (proc ++ todo) b.nd (fun x hx => by
    obtain ⟨n, hn⟩ := Option.isSome_iff_exists.1 ((b.mem x).1 hx)
    have := (b.f1 x n hn).2.2
    omega)
  rw [List.length_append] at this
  exact this
end
end Go.Vc
/- slices of one's own that begin within their row: the tail, the append of one. -/
namespace Go.Vc
open Go
variable {P : Program} {n : Nat} {a : Act} {e : Env} {w : World} {K : EPost} {X : List (Nat × EPost)} {R : EPost} {all : List Oper} {G : List Nat} {ro : Option Nat}
structure OwnO (w : World) (T : TypeId) (b off cap : Nat) (xs : List Value) : Prop where
  le : xs.length ≤ cap
  max : cap ≤ maxLen
  blk : ∃ pre junk, pre.length = off ∧ Blk w b (pre ++ (xs ++ junk)) T ∧ cap ≤ (xs ++ junk).length
theorem OwnO.kp {w' : World} {T : TypeId} {b off cap : Nat} {xs : List Value} {S : List Nat} (h : OwnO w T b off cap xs) (hk : Kp S w w') (hb : b ∉ S) : OwnO w' T b off cap xs :=
  ⟨h.le, h.max, by obtain ⟨p, j, h1, h2, h3⟩ := h.blk; exact ⟨p, j, h1, hk.blk hb h2, h3⟩⟩
theorem OwnO.lt {T : TypeId} {b off cap : Nat} {xs : List Value} (h : OwnO w T b off cap xs) : b < w.heap.size := by
  obtain ⟨_, _, _, h2, _⟩ := h.blk; exact h2.lt
theorem OwnO.get {T : TypeId} {b off cap : Nat} {xs : List Value} (h : OwnO w T b off cap xs) {i : Nat} {v : Value} (hv : xs[i]? = some v) : w.cell? ⟨b, off + i, none⟩ = some v := by
  obtain ⟨p, j, h1, h2, h3⟩ := h.blk
  refine h2.cell ?_
  rw [List.getElem?_append_right (by omega), h1, Nat.add_sub_cancel_left, List.getElem?_append_left (List.getElem?_eq_some_iff.1 hv).1]
  exact hv
theorem OwnO.tail {T : TypeId} {b off cap : Nat} {x : Value} {xs : List Value} (h : OwnO w T b off cap (x :: xs)) : OwnO w T b (offS off 1 cap 1) (cap - 1) xs := by
  have hl := h.le
  have hm := h.max
  rw [List.length_cons] at hl
  obtain ⟨p, j, h1, h2, h3⟩ := h.blk
  refine ⟨by omega, by omega, ?_⟩
  unfold offS
  by_cases hc : cap = 1
  · rw [if_pos hc]
    have : xs = [] := List.eq_nil_of_length_eq_zero (by omega)
    subst this
    exact ⟨p, x :: j, h1, h2, by simp; omega⟩
  · rw [if_neg hc]
    refine ⟨p ++ [x], j, by simp; omega, ?_, ?_⟩
    · simpa using h2
    · simp only [List.length_append, List.length_cons] at h3 ⊢; omega
section
variable {dst : Option Tmp} {ty : TypeId} {pos : String} {after : Array Edge} {g : Option (Nat × Bool)} {l : List Oper} {t : TypeId} {x y : Operand}
end
end Go.Vc
/- order: Chain. -/
namespace Go.Vc
open Go Go.Proofs
set_option maxRecDepth 10000
variable {w : World}
def farZ (far : Nat → Option Nat) (k : Int) : Option Value := if 0 ≤ k then (far k.toNat).map (fun n : Nat => I n) else none
def nearB (far : Nat → Option Nat) (next at_ : Nat) : Bool := match far next with
  | some n => decide (n + 1 = (far at_).getD 0)
  | none => false
section
variable {g : OrG} {E : List Ev} {R : List Int}
theorem Bf.first {L : Nat → Nat → Prop} {i j : Nat} {far : Nat → Option Nat} {proc : List Nat} {h : Nat} {r : List Nat} (b : Bf L i j far proc (h :: r)) : ∃ d, far h = some d ∧ h ≤ j ∧ i ≤ h := by
  obtain ⟨d, hd⟩ := Option.isSome_iff_exists.1 ((b.mem h).1 (by simp))
  have := b.f1 h d hd
  exact ⟨d, hd, this.2.2, this.2.1⟩
theorem Bf.le {L : Nat → Nat → Prop} {i j : Nat} {far : Nat → Option Nat} {proc todo : List Nat} (b : Bf L i j far proc todo) (hL : ∀ a b, L a b → a < b) {k n : Nat} (h : far k = some n) : n ≤ j := by
  have := (b.f1 k n h).1.1.le hL
  omega
end
end Go.Vc
/- order: race; All. -/
namespace Go.Vc
open Go Go.Proofs
set_option maxRecDepth 10000
variable {w : World}
def accB (e : Ev) : Bool := decide (e.k = 1) || decide (e.k = 2)
noncomputable def raceI (E : List Ev) (R : List Int) (i j : Nat) : Bool :=
  (accB (evA E i) && (accB (evA E j) && (decide ((evA E i).o = (evA E j).o) && !decide ((evA E i).t = (evA E j).t)))) && ((decide ((evA E i).k = 2) || decide ((evA E j).k = 2)) && !befI E R i j)
section
variable {g : OrG} {E : List Ev} {R : List Int}
end
end Go.Vc
/- order: All's iterator. -/
namespace Go.Vc
open Go Go.Proofs
set_option maxRecDepth 10000
variable {w : World}
abbrev P3 := Int × Nat × Nat
abbrev pairC (x : P3) : List Value := [I x.1, I x.2.1, I x.2.2]
abbrev pairE (x : P3) : List Value := [.agg ⟨pairC x⟩]
noncomputable def racesJ (E : List Ev) (R : List Int) (j i : Nat) : List P3 := (List.range i).filterMap fun i => if raceI E R i j = true then some ((evA E j).o, i, j) else none
noncomputable def racesN (E : List Ev) (R : List Int) (n : Nat) : List P3 := (List.range n).flatMap fun j => racesJ E R j j
section
variable {g : OrG} {E : List Ev} {R : List Int}
theorem ReadS.heap {W : World} {ad : Option Addr} {xs : List Value} (h : ReadS w ad xs) (hp : ∀ b, b ∈ blkOf ad → W.heap[b]? = w.heap[b]?) : ReadS W ad xs := by
  cases ad with
  | none => exact h
  | some ad =>
    intro i v hv
    obtain ⟨b, off, he, hb, hc⟩ := h.at_ (by have := (List.getElem?_eq_some_iff.1 hv).1; omega)
    simp only [Option.some.injEq] at he
    subst he
    rw [addr_lit, ← hc i v hv]
    exact World.cell?_of_block (hp _ (by simp [blkOf]))
theorem OrAt.heap {W : World} (h : OrAt w g E R) (hp : ∀ b, b ∈ g.F → W.heap[b]? = w.heap[b]?) : OrAt W g E R := by
  have hb : ∀ {b : Nat} {l : List Value} {T : TypeId}, b ∈ g.F → Blk w b l T → Blk W b l T := fun hm hB => by unfold Blk; rw [hp _ hm]; exact hB
  have m1 : g.p ∈ g.F := by simp [OrG.F]
  have m2 : ∀ b, b ∈ blkOf g.ead → b ∈ g.F := fun b hb => by simp [OrG.F, hb]
  have m3 : ∀ b, b ∈ blkOf g.rad → b ∈ g.F := fun b hb => by simp [OrG.F, hb]
  have m4 : ∀ b, b ∈ relBlks g.rp g.mad g.bs → b ∈ g.F := fun b hb => by simp [OrG.F, hb]
  refine ⟨⟨hb m1 h.hdr, h.ev.heap (fun b hb => hp b (m2 b hb)), h.ro.heap (fun b hb => hp b (m3 b hb)), h.lr, h.small⟩, ?_, h.bits, fun b hb => ?_⟩
  rotate_left
  · have q := hp b hb
    rw [Array.getElem?_eq_getElem (h.fl b hb)] at q
    exact (Array.getElem?_eq_some_iff.1 q).1
  exact ⟨hb (m4 _ (by simp [relBlks])) h.rel.hdr, h.rel.own.keep (fun b hb => hp b (m4 _ (by simp [relBlks, hb]))), h.rel.nb, h.rel.nM, h.rel.small, fun i b ws h1 h2 => ⟨hb (m4 _ (by simp [relBlks, List.mem_of_getElem? h1])) (h.rel.row i b ws h1 h2).1, (h.rel.row i b ws h1 h2).2⟩, h.rel.nodup⟩
/-- a sequence of pairs: a function value that tells them -/
structure Seq3 (w : World) (v : Value) (Fp : List Nat) (xs : List P3) : Prop where
  is : ∃ f lb, v = .func (.func f) #[] ⟨lb⟩ ∧ Iter Tryd.prog f lb Fp pairE xs w
end
end Go.Vc
/- order: an order that is not there; orders there or not, in one form. -/
namespace Go.Vc
open Go Go.Proofs
set_option maxRecDepth 10000
variable {w : World}
/-- no order, or one of nothing -/
def AbsO (w : World) (p : Option Addr) : Prop := p = none ∨ ∃ b, p = some ⟨b, 0, none⟩ ∧ Blk w b [.slice none 0 0, .slice none 0 0, .pointer none] 116
theorem AbsO.kp0 {w' : World} {p : Option Addr} (h : AbsO w p) (hk : Kp [] w w') : AbsO w' p := by
  rcases h with h | ⟨b, h1, h2⟩
  · exact .inl h
  · exact .inr ⟨b, h1, hk.blk (by simp) h2⟩
theorem AbsO.heap {W : World} {p : Option Addr} (h : AbsO w p) (hp : ∀ b, b ∈ blkOf p → W.heap[b]? = w.heap[b]?) : AbsO W p := by
  rcases h with h | ⟨b, h1, h2⟩
  · exact .inl h
  · exact .inr ⟨b, h1, by unfold Blk; rw [hp b (by rw [h1]; simp [blkOf])]; exact h2⟩
section
variable {p : Option Addr}
theorem AbsO.lt (h : AbsO w p) : ∀ b, b ∈ blkOf p → b < w.heap.size := fun b hb => by
  rcases h with rfl | ⟨b', rfl, hB⟩
  · simp [blkOf] at hb
  · simp [blkOf] at hb; subst hb; exact hB.lt
end
/-- an order, there (F its blocks) or not -/
def OX (w : World) (p : Option Addr) (F : List Nat) (E : List Ev) (R : List Int) : Prop := (AbsO w p ∧ F = blkOf p ∧ E = [] ∧ R = []) ∨ ∃ g, p = some ⟨g.p, 0, none⟩ ∧ F = g.F ∧ OrAt w g E R
section
variable {p : Option Addr} {F : List Nat} {E : List Ev} {R : List Int}
theorem OX.kp0 {w' : World} (h : OX w p F E R) (hk : Kp [] w w') : OX w' p F E R := by
  rcases h with ⟨h1, h2⟩ | ⟨g, h1, h2, h3⟩
  · exact .inl ⟨h1.kp0 hk, h2⟩
  · exact .inr ⟨g, h1, h2, h3.kp0 hk⟩
theorem OX.lt (h : OX w p F E R) : ∀ b, b ∈ F → b < w.heap.size := by
  rcases h with ⟨h1, rfl, _⟩ | ⟨g, h1, rfl, h3⟩
  · exact h1.lt
  · exact h3.fl
theorem OX.small (h : OX w p F E R) : E.length ≤ 2048 := by
  rcases h with ⟨_, _, rfl, _⟩ | ⟨g, _, _, h3⟩
  · simp
  · exact h3.small
end
end Go.Vc
/- Outermost loops over functions in a function whose results lie in memory. -/
namespace Go.Vc
open Go
variable {P : Program} {n : Nat} {w : World}
section
variable {e : Env} {KM : MPost} {XM : List (Nat × MPost)} {RM : MPost} {ds : List Nat}
end
end Go.Vc
/- order: best, First, Pair. -/
namespace Go.Vc
open Go Go.Proofs
set_option maxRecDepth 10000
variable {w : World}
def bestGo (wb : P3 → Bool) : Option P3 → List P3 → Option P3
  | acc, [] => acc
  | acc, x :: r => match acc with
    | some b => if b.2.2 < x.2.2 then some b else bestGo wb (if wb x = true then some x else some b) r
    | none => bestGo wb (if wb x = true then some x else none) r
def stopB (acc : Option P3) (x : P3) : Bool := match acc with
  | some b => decide (b.2.2 < x.2.2)
  | none => false
section
variable {p : Option Addr} {F : List Nat} {E : List Ev} {R : List Int}
structure BestI (w W : World) (b4 b6 b7 bw : Nat) (fv : Value) (acc : Option P3) : Prop where
  b6_ : Blk W b6 (pairC (acc.getD (0, 0, 0))) 136
  b7_ : Blk W b7 [.bool acc.isSome] 4
  bw_ : Blk W bw [fv] 175
  b4_ : Blk W b4 [I 0, I 0, I 0] 136
  kp : Kp [] w W
theorem BestI.nc {W W' : World} {b4 b6 b7 bw B : Nat} {fv : Value} {acc : Option P3} (h : BestI w W b4 b6 b7 bw fv acc) (hn : Nc B W W') (hB : w.heap.size ≤ B) : BestI w W' b4 b6 b7 bw fv acc :=
  ⟨hn.blk h.b6_, hn.blk h.b7_, hn.blk h.bw_, hn.blk h.b4_, hn.kp h.kp hB⟩
theorem BestI.kp0 {W W' : World} {b4 b6 b7 bw : Nat} {fv : Value} {acc : Option P3} (h : BestI w W b4 b6 b7 bw fv acc) (hk : Kp [] W W') : BestI w W' b4 b6 b7 bw fv acc :=
  ⟨hk.blk (by simp) h.b6_, hk.blk (by simp) h.b7_, hk.blk (by simp) h.bw_, hk.blk (by simp) h.b4_, h.kp.trans hk⟩
end
end Go.Vc
/- order: First; the law's own small functions; lives. -/
namespace Go.Vc
open Go Go.Proofs
set_option maxRecDepth 10000
variable {w : World}
section
variable {g : OrG} {E : List Ev} {R : List Int}
theorem OrAt.lt (h : OrAt w g E R) : ∀ b, b ∈ g.F → b < w.heap.size := h.fl
noncomputable def firstV (E : List Ev) (R : List Int) : Option P3 := bestGo (fun _ => true) none (racesN E R E.length)
end
/-! ### lives -/
def sO : Shp := ⟨2, 1, 0, 1, []⟩
def evO1 : List Ev := [⟨7, 0, 1⟩, ⟨2, 0, 0⟩, ⟨1, 1, 0⟩]
def evO2 : List Ev := [⟨7, 0, 1⟩, ⟨5, 0, 0⟩, ⟨2, 0, 0⟩, ⟨6, 0, 0⟩, ⟨5, 1, 0⟩, ⟨1, 1, 0⟩]
def R1 : List Int := rnds sO evO1 3
def R2 : List Int := rnds sO evO2 6
theorem bef_next {E : List Ev} {R : List Int} {i : Nat} (h : befI E R i (i + 1 : Nat) = true) : lk E R i (i + 1) := by
  have h := befI_nat.1 h
  cases h with
  | one h => exact h
  | more h1 h2 => have := lk_lt h1; have := ch_lt h2; omega
theorem b12 : befI evO1 R1 (1 : Nat) (2 : Nat) = false := by
  rw [Bool.eq_false_iff]
  intro h
  exact absurd (bef_next h) (by decide)
end Go.Vc
/- order: Races, gone, Pair. -/
namespace Go.Vc
open Go Go.Proofs
set_option maxRecDepth 10000
variable {w : World}
def prsC (l : List P3) : List Value := l.flatMap pairC
/-- a list in the making, kept in a box; its blocks lie behind B0 -/
structure AccI (w W : World) (B0 b5 : Nat) (ST T : TypeId) (sz : Nat) (n : Nat) (xs : List Value) : Prop where
  hdr : ∃ ad cap, Blk W b5 [.slice ad n cap] ST ∧ OwnS W T sz ad n cap xs ∧ ∀ b, b ∈ blkOf ad → B0 ≤ b
  fresh : w.heap.size ≤ b5
  lt : b5 < B0
  kp : Kp [] w W
section
variable {W W' : World} {B0 b5 n sz : Nat} {ST T : TypeId} {xs : List Value}
theorem AccI.nc {B : Nat} (h : AccI w W B0 b5 ST T sz n xs) (hn : Nc B W W') (hB : w.heap.size ≤ B) : AccI w W' B0 b5 ST T sz n xs := by
  obtain ⟨ad, cap, h1, h2, h3⟩ := h.hdr
  exact ⟨⟨ad, cap, hn.blk h1, hn.own h2, h3⟩, h.fresh, h.lt, hn.kp h.kp hB⟩
theorem AccI.kp0 (h : AccI w W B0 b5 ST T sz n xs) (hk : Kp [] W W') : AccI w W' B0 b5 ST T sz n xs := by
  obtain ⟨ad, cap, h1, h2, h3⟩ := h.hdr
  exact ⟨⟨ad, cap, hk.blk (by simp) h1, h2.kp hk (by simp), h3⟩, h.fresh, h.lt, h.kp.trans hk⟩
/-- one more: behind the append and the store -/
theorem AccI.push {W1 W2 W3 : World} {ad ad' : Option Addr} {cap cap' m : Nat} {ys : List Value} (h : AccI w W B0 b5 ST T sz n xs) (hB : Blk W b5 [.slice ad n cap] ST) (hB0 : B0 ≤ W.heap.size) (k1 : Kp [] W W1) (ho : OwnS W2 T sz ad' m cap' ys) (k2 : Kp (blkOf ad) W1 W2) (hn : ∀ b, b ∈ blkOf ad' → b ∈ blkOf ad ∨ W1.heap.size ≤ b)
    (hu : Upd W2 b5 (.cells ⟨[.slice ad' m cap']⟩ ST (0, 0)) W3) : AccI w W3 B0 b5 ST T sz m ys ∧ Kp (b5 :: blkOf ad) W W3 := by
  obtain ⟨ad0, cap0, h1, h2, h3⟩ := h.hdr
  have e1 : Value.slice ad n cap = Value.slice ad0 n cap0 := by
    have := h1.symm.trans hB
    simp at this
    simp [this.1, this.2]
  simp only [Value.slice.injEq] at e1
  obtain ⟨rfl, -, rfl⟩ := e1
  have hlt := h.lt
  have s1 := k1.size
  have hn' : ∀ b, b ∈ blkOf ad' → B0 ≤ b := fun b hb => by
    rcases hn b hb with q | q
    · exact h3 b q
    · omega
  have kk : Kp (b5 :: blkOf ad) W W3 := ((k1.mono (by simp)).trans (k2.mono (fun b hb => by simp [hb]))).trans (hu.kp _ (.inl (by simp)))
  refine ⟨⟨⟨ad', cap', hu.blk, ho.upd hu (fun hm => by have := hn' _ hm; omega), hn'⟩, h.fresh, h.lt, ?_⟩, kk⟩
  exact h.kp.since kk (fun b hb => by
    rcases List.mem_cons.1 hb with rfl | hb
    · exact h.fresh
    · have := h3 b hb; have := h.fresh; omega)
end
/-- the races on a variable -/
def onV (v : Int) (l : List P3) : List P3 := l.filter fun x => decide (x.1 = v)
section
variable {p : Option Addr} {F : List Nat} {E : List Ev} {R : List Int}
/-- what gone keeps -/
def gonP (m : Int) (l : List P3) : List P3 := if 0 ≤ m then l.take m.toNat else l
/-! ### Pair -/
noncomputable def pairV (E : List Ev) (R : List Int) (v : Int) : Option P3 := bestGo (fun x => decide (x.1 = v)) none (racesN E R E.length)
end
end Go.Vc
/- order: what a beginning of a list says; the races' variables: plain laws. -/
namespace Go.Vc
open Go Go.Proofs
theorem can_acc {s : Shp} {c : Ck} {x : Ev} (hc : canB s c x = true) (hk : x.k = 1 ∨ x.k = 2) : 0 ≤ x.o ∧ x.o < s.va := by
  unfold canB at hc
  by_cases h2 : (st c x.t).ph = 2
  · rw [if_pos h2] at hc
    rcases hk with hk | hk <;> rw [hk] at hc <;> simp at hc
  · rw [if_neg h2] at hc
    by_cases h1 : (st c x.t).ph ≠ 1
    · rw [if_pos h1] at hc; simp at hc
    · rw [if_neg h1] at hc
      by_cases h0 : x.o < 0
      · rw [if_pos h0] at hc; simp at hc
      · rw [if_neg h0] at hc
        rcases hk with hk | hk <;> rw [hk] at hc <;> simp at hc <;> omega
section
variable {E : List Ev} {R : List Int}
end
section
variable {s : Shp} {l : List Ev} {n : Nat}
variable (hn : n ≤ l.length)
include hn
end
section
variable {E : List Ev} {R : List Int} {n : Nat}
end
end Go.Vc
/- order: what is done under one lock has no race: the plain law. -/
namespace Go.Vc
open Go Go.Proofs
def sL : Shp := ⟨4, 1, 0, 1, []⟩
abbrev TK := Int × Int
def trip (x : TK) : List Ev := [⟨5, x.1, 0⟩, ⟨x.2, x.1, 0⟩, ⟨6, x.1, 0⟩]
def lockL (ts : List TK) : List Ev := [⟨7, 0, 1⟩, ⟨7, 0, 2⟩, ⟨7, 0, 3⟩] ++ ts.flatMap trip
def TOk (x : TK) : Prop := (0 ≤ x.1 ∧ x.1 ≤ 3) ∧ (x.2 = 1 ∨ x.2 = 2)
/-- a run that is let, event by event -/
def okFrom (s : Shp) : Ck → List Ev → Prop
  | _, [] => True
  | c, x :: r => canB s c x = true ∧ okFrom s (nextC s c x) r
/-- all four stand, the lock is free -/
def GoodL (c : Ck) : Prop := (∀ t : Int, 0 ≤ t → t ≤ 3 → (st c t).ph = 1) ∧ c.O 0 = none
end Go.Vc
