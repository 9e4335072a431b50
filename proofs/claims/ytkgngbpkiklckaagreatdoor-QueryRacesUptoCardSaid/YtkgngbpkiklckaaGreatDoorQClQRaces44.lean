/- Query: asked for races, in plain Lean (no program in sight). -/
import Derived.Test.YtkgngbpkiklckaaGreatDoorQClQRaces19
import Derived.Test.YtkgngbpkiklckaaGreatDoorQClQRaces10
import Derived.Test.YtkgngbpkiklckaaGreatDoorQClQRaces36
import Derived.Test.YtkgngbpkiklckaaGreatDoorQClQRaces12
import Derived.Test.YtkgngbpkiklckaaGreatDoorQClQRaces8
import Derived.Test.YtkgngbpkiklckaaGreatDoorQClQRaces5
import Derived.Scope
import Derived.Test.YtkgngbpkiklckaaGreatDoorQClQRaces9
import Derived.Test.YtkgngbpkiklckaaGreatDoorQClQRaces34
namespace Go.Vc
open Go
set_option maxRecDepth 20000
theorem bind_steps {op : Int} {f : Int → Int × Nat} {k : Nat} : ∀ (l : List Int) (c : Int), (∀ i ∈ l, (f i).2 ≤ k) → (bindL op f l c).2 ≤ k * l.length
  | [], c, _ => by simp [bindL]
  | i :: r, c, h => by
    have h1 := h i (by simp)
    have ih := bind_steps (op := op) r (c + trI (decide ((f i).1 = 1))) (fun j hj => h j (by simp [hj]))
    have e : k * (i :: r).length = k * r.length + k := by rw [List.length_cons, Nat.mul_succ]
    rw [e, bindL]
    split
    · dsimp only; omega
    · split
      · dsimp only; omega
      · split <;> (dsimp only; omega)
theorem bind_any {f : Int → Int × Nat} : ∀ (l : List Int) (c : Int), (bindL 22 f l c).1 = if l.any (fun i => decide ((f i).1 = 1)) = true then 1 else c
  | [], c => by simp [bindL]
  | i :: r, c => by
    rw [bindL, if_neg (by omega)]
    by_cases h : (f i).1 = 1
    · rw [if_pos ⟨rfl, h⟩]; simp [h]
    · rw [if_neg (fun hh => h hh.2), if_neg (fun hh => h hh.2), bind_any r]
      simp [h, trI]
theorem bind_count {f : Int → Int × Nat} : ∀ (l : List Int) (c : Int), (bindL 24 f l c).1 = c + (l.countP (fun i => decide ((f i).1 = 1)) : Nat)
  | [], c => by simp [bindL]
  | i :: r, c => by
    rw [bindL, if_neg (by omega), if_neg (by omega), if_neg (by omega), bind_count r, List.countP_cons]
    by_cases h : (f i).1 = 1
    · simp [h, trI]; omega
    · simp [h, trI]
theorem bind_least {f : Int → Int × Nat} : ∀ (l : List Int) (c : Int), (bindL 25 f l c).1 = (l.find? (fun i => decide ((f i).1 = 1))).getD (-1)
  | [], c => by simp [bindL]
  | i :: r, c => by
    rw [bindL, if_neg (by omega), if_neg (by omega)]
    by_cases h : (f i).1 = 1
    · rw [if_pos ⟨.inl rfl, h⟩, List.find?_cons_of_pos (by simp [h])]; rfl
    · rw [if_neg (fun hh => h hh.2), bind_least r, List.find?_cons_of_neg (by simp [h])]
/-! ### The three questions -/
def txtE : List UInt8 := [101, 118, 101, 110, 116, 115]
def txtA : List UInt8 := [97, 110, 121, 32, 97, 58, 32, 97, 110, 121, 32, 98, 58, 32, 114, 97, 99, 101, 40, 97, 44, 32, 98, 41]
def txtB : List UInt8 := [99, 111, 117, 110, 116, 32, 97, 58, 32, 97, 110, 121, 32, 98, 58, 32, 98, 32, 60, 32, 97, 32, 97, 110, 100, 32, 114, 97, 99, 101, 40, 98, 44, 32, 97, 41]
def txtC : List UInt8 := [108, 101, 97, 115, 116, 32, 97, 58, 32, 97, 110, 121, 32, 98, 58, 32, 98, 32, 60, 32, 97, 32, 97, 110, 100, 32, 114, 97, 99, 101, 40, 98, 44, 32, 97, 41]
def nmA : QT := .n0 2 0 [97]
def nmB : QT := .n0 2 0 [98]
def inA : QT := .n1 22 0 [98] (.n2 21 0 [] nmA nmB)
def inB : QT := .n1 22 0 [98] (.n2 18 0 [] (.n2 11 0 [] nmB nmA) (.n2 21 0 [] nmB nmA))
def isB (r : Except (Int × Int) QT) (t : QT) : Bool := match r with | .ok u => decide (u = t) | .error _ => false
theorem isB_iff {r : Except (Int × Int) QT} {t : QT} (h : isB r t = true) : r = .ok t := by
  unfold isB at h
  split at h
  · rw [of_decide_eq_true h]
  · cases h
theorem parseE : parseM txtE = .ok (.n0 3 0 []) := by rfl
theorem parseA : parseM txtA = .ok (.n1 22 0 [97] inA) := by rfl
theorem parseB : parseM txtB = .ok (.n1 24 0 [97] inB) := isB_iff (by decide +kernel)
theorem parseC : parseM txtC = .ok (.n1 25 0 [97] inB) := isB_iff (by decide +kernel)
theorem lookE : lookedM (QT.n0 3 0 []).rows = .ok (.n0 3 0 []) := by rfl
theorem lookA : lookedM (QT.n1 22 0 [97] inA).rows = .ok (.n1 22 0 [97] inA) := by rfl
theorem lookB : lookedM (QT.n1 24 0 [97] inB).rows = .ok (.n1 24 0 [97] inB) := by rfl
theorem lookC : lookedM (QT.n1 25 0 [97] inB).rows = .ok (.n1 25 0 [97] inB) := by rfl
section
variable {W : QW}
theorem trI_one (b : Bool) : decide (trI b = 1) = b := by cases b <;> rfl
theorem ev_inA (i : Int) (σ : List UInt8 → Int) : decide ((evq W inA (setV σ [97] i)).1 = 1) = (List.range W.n).any (fun (j : Nat) => W.race i j) ∧ (evq W inA (setV σ [97] i)).2 ≤ 1 + 3 * W.n := by
  have hf : (fun j : Int => evq W (.n2 21 0 [] nmA nmB) (setV (setV σ [97] i) [98] j)) = fun j => (trI (W.race i j), 3) := by funext j; rfl
  have e : evq W inA (setV σ [97] i) = ((bindL 22 (fun j : Int => (trI (W.race i j), 3)) (evs W 22) 0).1, 1 + (bindL 22 (fun j : Int => (trI (W.race i j), 3)) (evs W 22) 0).2) := by
    unfold inA
    rw [evq, if_pos (by decide), hf]
  rw [e]
  have hs := bind_steps (op := 22) (f := fun j : Int => (trI (W.race i j), 3)) (k := 3) (evs W 22) 0 (fun _ _ => Nat.le_refl _)
  have hl : (evs W 22).length = W.n := by simp [evs]
  rw [hl] at hs
  refine ⟨?_, by dsimp only; omega⟩
  rw [bind_any]
  have : (evs W 22).any (fun i_1 => decide (((fun j : Int => (trI (W.race i j), 3)) i_1 : Int × Nat).1 = 1)) = (List.range W.n).any (fun (j : Nat) => W.race i j) := by
    simp only [evs, trI_one]
    rw [if_neg (by decide), List.any_map]; rfl
  rw [this]
  cases (List.range W.n).any (fun (j : Nat) => W.race i j) <;> rfl
theorem ev_inB (i : Int) (σ : List UInt8 → Int) : decide ((evq W inB (setV σ [97] i)).1 = 1) = (List.range W.n).any (fun (j : Nat) => decide ((j : Int) < i) && W.race j i) ∧ (evq W inB (setV σ [97] i)).2 ≤ 1 + 7 * W.n := by
  have hf : ∀ j : Int, evq W (.n2 18 0 [] (.n2 11 0 [] nmB nmA) (.n2 21 0 [] nmB nmA)) (setV (setV σ [97] i) [98] j) = if trI (decide (j < i)) = 1 then (trI (decide (trI (W.race j i) = 1)), 7) else (0, 4) := by intro j; rfl
  have h1 : ∀ j : Int, decide ((evq W (.n2 18 0 [] (.n2 11 0 [] nmB nmA) (.n2 21 0 [] nmB nmA)) (setV (setV σ [97] i) [98] j)).1 = 1) = (decide (j < i) && W.race j i) := by
    intro j
    rw [hf]
    by_cases h : j < i
    · rw [decide_eq_true h]; simp only [trI_one]; cases W.race j i <;> rfl
    · rw [decide_eq_false h]; rfl
  have h2 : ∀ j : Int, (evq W (.n2 18 0 [] (.n2 11 0 [] nmB nmA) (.n2 21 0 [] nmB nmA)) (setV (setV σ [97] i) [98] j)).2 ≤ 7 := by
    intro j
    rw [hf]; split <;> (dsimp only; omega)
  generalize hg : (fun j : Int => evq W (.n2 18 0 [] (.n2 11 0 [] nmB nmA) (.n2 21 0 [] nmB nmA)) (setV (setV σ [97] i) [98] j)) = g
  have h1' : ∀ j, decide ((g j).1 = 1) = (decide (j < i) && W.race j i) := fun j => by rw [← hg]; exact h1 j
  have h2' : ∀ j, (g j).2 ≤ 7 := fun j => by rw [← hg]; exact h2 j
  have e : evq W inB (setV σ [97] i) = ((bindL 22 g (evs W 22) 0).1, 1 + (bindL 22 g (evs W 22) 0).2) := by
    unfold inB
    rw [evq, if_pos (by decide), hg]
  rw [e]
  have hs := bind_steps (op := 22) (f := g) (k := 7) (evs W 22) 0 (fun j _ => h2' j)
  have hl : (evs W 22).length = W.n := by simp [evs]
  rw [hl] at hs
  refine ⟨?_, by dsimp only; omega⟩
  rw [bind_any]
  have : (evs W 22).any (fun j => decide ((g j).1 = 1)) = (List.range W.n).any (fun (j : Nat) => decide ((j : Int) < i) && W.race j i) := by
    simp only [evs, h1']
    rw [if_neg (by decide), List.any_map]; rfl
  rw [this]
  cases (List.range W.n).any (fun (j : Nat) => decide ((j : Int) < i) && W.race j i) <;> rfl
/-- is there a race that ends here? -/
def hitB (W : QW) (a : Nat) : Bool := (List.range W.n).any (fun (b : Nat) => decide ((b : Int) < a) && W.race b a)
theorem evA_ok (hn : W.n ≤ 40) (σ : List UInt8 → Int) : decide ((evq W (.n1 22 0 [97] inA) σ).1 = 1) = (List.range W.n).any (fun (a : Nat) => (List.range W.n).any fun (b : Nat) => W.race a b) ∧ (evq W (.n1 22 0 [97] inA) σ).2 ≤ 1000000 := by
  have hs := bind_steps (op := 22) (f := fun i => evq W inA (setV σ [97] i)) (k := 1 + 3 * W.n) (evs W 22) 0 (fun j _ => (ev_inA j σ).2)
  have hl : (evs W 22).length = W.n := by simp [evs]
  rw [hl] at hs
  rw [evq, if_pos (by decide)]
  have hm : (1 + 3 * W.n) * W.n ≤ 121 * 40 := Nat.mul_le_mul (by omega) hn
  refine ⟨?_, by dsimp only; omega⟩
  rw [bind_any]
  have : (evs W 22).any (fun i => decide ((evq W inA (setV σ [97] i)).1 = 1)) = (List.range W.n).any (fun (a : Nat) => (List.range W.n).any fun (b : Nat) => W.race a b) := by
    have : (fun i => decide ((evq W inA (setV σ [97] i)).1 = 1)) = fun i => (List.range W.n).any (fun (j : Nat) => W.race i j) := by funext i; exact (ev_inA i σ).1
    rw [this]
    simp only [evs]
    rw [if_neg (by decide), List.any_map]; rfl
  rw [this]
  cases (List.range W.n).any (fun (a : Nat) => (List.range W.n).any fun (b : Nat) => W.race a b) <;> rfl
theorem evB_ok (hn : W.n ≤ 40) (σ : List UInt8 → Int) : (evq W (.n1 24 0 [97] inB) σ).1 = ((List.range W.n).countP (hitB W) : Nat) ∧ (evq W (.n1 24 0 [97] inB) σ).2 ≤ 1000000 := by
  have hs := bind_steps (op := 24) (f := fun i => evq W inB (setV σ [97] i)) (k := 1 + 7 * W.n) (evs W 24) 0 (fun j _ => (ev_inB j σ).2)
  have hl : (evs W 24).length = W.n := by simp [evs]
  rw [hl] at hs
  rw [evq, if_pos (by decide)]
  have hm : (1 + 7 * W.n) * W.n ≤ 281 * 40 := Nat.mul_le_mul (by omega) hn
  refine ⟨?_, by dsimp only; omega⟩
  rw [bind_count, Int.zero_add]
  congr 1
  have : (fun i => decide ((evq W inB (setV σ [97] i)).1 = 1)) = fun i => (List.range W.n).any (fun (j : Nat) => decide ((j : Int) < i) && W.race j i) := by funext i; exact (ev_inB i σ).1
  rw [this]
  simp only [evs]
  rw [if_neg (by decide), List.countP_map]; rfl
theorem evC_ok (hn : W.n ≤ 40) (σ : List UInt8 → Int) : (evq W (.n1 25 0 [97] inB) σ).1 = (((List.range W.n).find? (hitB W)).map fun (a : Nat) => (a : Int)).getD (-1) ∧ (evq W (.n1 25 0 [97] inB) σ).2 ≤ 1000000 := by
  have hs := bind_steps (op := 25) (f := fun i => evq W inB (setV σ [97] i)) (k := 1 + 7 * W.n) (evs W 25) 0 (fun j _ => (ev_inB j σ).2)
  have hl : (evs W 25).length = W.n := by simp [evs]
  rw [hl] at hs
  rw [evq, if_pos (by decide)]
  have hm : (1 + 7 * W.n) * W.n ≤ 281 * 40 := Nat.mul_le_mul (by omega) hn
  refine ⟨?_, by dsimp only; omega⟩
  rw [bind_least]
  congr 1
  have : (fun i => decide ((evq W inB (setV σ [97] i)).1 = 1)) = fun i => (List.range W.n).any (fun (j : Nat) => decide ((j : Int) < i) && W.race j i) := by funext i; exact (ev_inB i σ).1
  rw [this]
  simp only [evs]
  rw [if_neg (by decide), List.find?_map]; rfl
end
end Go.Vc
/- order: Past. -/
namespace Go.Vc
open Go Go.Proofs
set_option maxRecDepth 10000
variable {w : World}
section
variable {g : OrG} {E : List Ev} {R : List Int}
noncomputable def pastB (E : List Ev) (R : List Int) (i k : Int) : Bool := decide (k = i) || befI E R i k
noncomputable def pastL (E : List Ev) (R : List Int) (ks : List Int) (n : Nat) : List Int := ((List.range n).filter fun i : Nat => ks.any fun k => pastB E R i k).map fun i : Nat => (i : Int)
end
end Go.Vc
/- chains of least length: the plain law. No program. -/
namespace Go.Vc
/-- a way of so many links to j -/
inductive Pn (L : Nat → Nat → Prop) (j : Nat) : Nat → Nat → Prop
  | zero : Pn L j 0 j
  | succ {n k m : Nat} : L k m → Pn L j n m → Pn L j (n + 1) k
def Di (L : Nat → Nat → Prop) (j k n : Nat) : Prop := Pn L j n k ∧ ∀ m, m < n → ¬ Pn L j m k
/-- from each on to the least that is nearer -/
inductive ChainR (L : Nat → Nat → Prop) (j : Nat) : Nat → List Nat → Prop
  | done : ChainR L j j [j]
  | step {k m n : Nat} {l : List Nat} : Di L j k (n + 1) → k < m → L k m → Di L j m n → (∀ m', k < m' → m' < m → ¬ (L k m' ∧ Di L j m' n)) → ChainR L j m l → ChainR L j k (k :: l)
section
variable {L : Nat → Nat → Prop} {j : Nat}
theorem Di.uniq {k n m : Nat} (h : Di L j k n) (g : Di L j k m) : n = m := by
  rcases Nat.lt_trichotomy n m with q | q | q
  · exact absurd h.1 (g.2 n q)
  · exact q
  · exact absurd g.1 (h.2 m q)
theorem Pn.di {n k : Nat} (h : Pn L j n k) : ∃ m, m ≤ n ∧ Di L j k m := by
  induction n using Nat.strongRecOn generalizing k with
  | _ n ih =>
    by_cases q : ∃ m, m < n ∧ Pn L j m k
    · obtain ⟨m, hm, hp⟩ := q
      obtain ⟨m', h1, h2⟩ := ih m hm hp
      exact ⟨m', by omega, h2⟩
    · exact ⟨n, Nat.le_refl _, h, fun m hm hp => q ⟨m, hm, hp⟩⟩
theorem Di.next {k n : Nat} (h : Di L j k (n + 1)) : ∃ m, L k m ∧ Di L j m n := by
  obtain ⟨hp, hmin⟩ := h
  cases hp with
  | succ hl hm =>
    rename_i m
    exact ⟨m, hl, hm, fun m' hm' hp' => hmin (m' + 1) (by omega) (.succ hl hp')⟩
theorem ChainR.uniq {k : Nat} {l l' : List Nat} (h : ChainR L j k l) (g : ChainR L j k l') : l = l' := by
  induction h generalizing l' with
  | done =>
    cases g with
    | done => rfl
    | step h1 => exact absurd .zero (h1.2 0 (by omega))
  | step h1 h2 h3 h4 h5 h6 ih =>
    cases g with
    | done => exact absurd .zero (h1.2 0 (by omega))
    | step g1 g2 g3 g4 g5 g6 =>
      rename_i k m n l m' n' l'
      have e := h1.uniq g1
      have e : n = n' := by omega
      subst e
      have em : m = m' := by
        rcases Nat.lt_trichotomy m m' with q | q | q
        · exact absurd ⟨h3, h4⟩ (g5 m h2 q)
        · exact q
        · exact absurd ⟨g3, g4⟩ (h5 m' g2 q)
      subst em
      rw [ih g6]
variable (hL : ∀ a b, L a b → a < b)
include hL
theorem Pn.le {n k : Nat} (h : Pn L j n k) : k + n ≤ j := by
  induction h with
  | zero => omega
  | succ hl _ ih => have := hL _ _ hl; omega
omit hL in
theorem nodup_bound : ∀ (n : Nat) (l : List Nat), l.Nodup → (∀ x ∈ l, x < n) → l.length ≤ n
  | 0, l, _, h => by
    cases l with
    | nil => simp
    | cons x r => have := h x (by simp); omega
  | n + 1, l, hd, h => by
    by_cases hm : n ∈ l
    · have := nodup_bound n (l.erase n) (hd.erase n) (fun x hx => by
        have h1 := (hd.mem_erase_iff).1 hx
        have := h x h1.2
        have := h1.1
        omega)
      rw [List.length_erase_of_mem hm] at this
      omega
    · have := nodup_bound n l hd (fun x hx => by
        have := h x hx
        have : x ≠ n := fun e => hm (e ▸ hx)
        omega)
      omega
end
/-! ### Level by level -/
structure Bf (L : Nat → Nat → Prop) (i j : Nat) (far : Nat → Option Nat) (proc todo : List Nat) : Prop where
  f1 : ∀ k n, far k = some n → Di L j k n ∧ i ≤ k ∧ k ≤ j
  f2 : far j = some 0
  mem : ∀ k, k ∈ proc ++ todo ↔ (far k).isSome = true
  nd : (proc ++ todo).Nodup
  closed : ∀ k ∈ proc, ∀ p, i ≤ p → L p k → (far p).isSome = true
  lev : todo.Pairwise fun a b => (far a).getD 0 ≤ (far b).getD 0
  span : ∀ h ∈ todo.head?, ∀ k ∈ todo, (far k).getD 0 ≤ (far h).getD 0 + 1
section
variable {L : Nat → Nat → Prop} {i j : Nat} {far : Nat → Option Nat} {proc todo : List Nat}
def upN (far : Nat → Option Nat) (k n : Nat) (x : Nat) : Option Nat := if x = k then some n else far x
/-- all that are as near as the head are met -/
theorem Bf.met {h : Nat} {r : List Nat} {d : Nat} (b : Bf L i j far proc (h :: r)) (hL : ∀ a b, L a b → a < b) (hd : far h = some d) : ∀ n, n ≤ d → ∀ k, i ≤ k → Di L j k n → (far k).isSome = true := by
  intro n
  induction n with
  | zero =>
    intro _ k _ hk
    have := hk.1
    cases this
    rw [b.f2]; rfl
  | succ n ih =>
    intro hn k hik hk
    obtain ⟨m, hl, hm⟩ := hk.next
    have hkm := hL _ _ hl
    have hmet := ih (by omega) m (by omega) hm
    obtain ⟨n', hn'⟩ := Option.isSome_iff_exists.1 hmet
    have e := (b.f1 m n' hn').1.uniq hm
    subst e
    have hin := (b.mem m).2 hmet
    rcases List.mem_append.1 hin with q | q
    · exact b.closed m q k hik hl
    · exfalso
      rcases List.mem_cons.1 q with e | q
      · subst e; rw [hd] at hn'; cases hn'; omega
      · have := (List.pairwise_cons.1 b.lev).1 m q
        rw [hd, hn'] at this
        simp at this; omega
/-- one is met -/
theorem Bf.push {h : Nat} {r : List Nat} {d k : Nat} (b : Bf L i j far proc (h :: r)) (hL : ∀ a b, L a b → a < b) (hd : far h = some d) (hk : far k = none) (hik : i ≤ k) (hl : L k h) : Bf L i j (upN far k (d + 1)) proc (h :: (r ++ [k])) := by
  have hkn : k ∉ proc ++ (h :: r) := fun q => by have := (b.mem k).1 q; rw [hk] at this; cases this
  have hhj := (b.f1 h d hd).2.2
  have hkh := hL _ _ hl
  have hdi : Di L j k (d + 1) := ⟨.succ hl (b.f1 h d hd).1.1, fun m hm hp => by
    obtain ⟨m', h1, h2⟩ := hp.di
    have := b.met hL hd m' (by omega) k hik h2
    rw [hk] at this; cases this⟩
  have old : ∀ x, x ∈ proc ++ (h :: r) → upN far k (d + 1) x = far x := fun x hx => by
    have hne : x ≠ k := fun e => hkn (by rw [← e]; exact hx)
    unfold upN; rw [if_neg hne]
  have oldr : ∀ x, x ∈ h :: r → upN far k (d + 1) x = far x := fun x hx => old x (List.mem_append_right _ hx)
  have e1 : upN far k (d + 1) k = some (d + 1) := by unfold upN; rw [if_pos rfl]
  have hk2 : k ≠ j := fun e => by subst e; rw [b.f2] at hk; cases hk
  refine ⟨fun x n hx => ?_, ?_, fun x => ?_, ?_, fun x hx p hp hlp => ?_, ?_, ?_⟩
  · unfold upN at hx
    by_cases q : x = k
    · subst q; rw [if_pos rfl] at hx; cases hx; exact ⟨hdi, hik, by omega⟩
    · rw [if_neg q] at hx; exact b.f1 x n hx
  · unfold upN; rw [if_neg (fun e => hk2 e.symm)]; exact b.f2
  · unfold upN
    have := b.mem x
    by_cases q : x = k
    · subst q; simp
    · rw [if_neg q, ← this]; simp [q]
  · have e : proc ++ (h :: (r ++ [k])) = (proc ++ (h :: r)) ++ [k] := by simp
    rw [e, List.nodup_append]
    exact ⟨b.nd, by simp, fun x hx y hy => by simp at hy; subst hy; exact fun e => hkn (e ▸ hx)⟩
  · have := b.closed x hx p hp hlp
    unfold upN
    split
    · rfl
    · exact this
  · have e : h :: (r ++ [k]) = (h :: r) ++ [k] := by simp
    rw [e, List.pairwise_append]
    refine ⟨?_, by simp, fun x hx y hy => ?_⟩
    · refine (List.Pairwise.imp_of_mem ?_ b.lev)
      intro x y hx hy hxy
      rw [oldr x hx, oldr y hy]; exact hxy
    · simp at hy; subst hy
      rw [oldr x hx, e1]
      have := b.span h (by simp) x hx
      rw [hd] at this
      simpa using this
  · intro y hy x hx
    simp at hy; subst hy
    rw [oldr h (by simp), hd]
    have hx' : x ∈ h :: r ∨ x = k := by simpa [or_assoc] using hx
    rcases hx' with q | q
    · rw [oldr x q]; have := b.span h (by simp) x q; rw [hd] at this; exact this
    · subst q; rw [e1]; simp
/-- the head is done -/
theorem Bf.pop {h : Nat} {r : List Nat} (b : Bf L i j far proc (h :: r)) (hc : ∀ p, i ≤ p → L p h → (far p).isSome = true) : Bf L i j far (proc ++ [h]) r where
  f1 := b.f1
  f2 := b.f2
  mem := fun k => by have := b.mem k; simp only [List.append_assoc, List.singleton_append]; exact this
  nd := by have := b.nd; simp only [List.append_assoc, List.singleton_append]; exact this
  closed := fun k hk => by
    rcases List.mem_append.1 hk with q | q
    · exact b.closed k q
    · simp at q; subst q; exact hc
  lev := (List.pairwise_cons.1 b.lev).2
  span := fun y hy x hx => by
    have hym : y ∈ r := List.mem_of_mem_head? hy
    have h1 := b.span h (by simp) x (by simp [hx])
    have h2 := (List.pairwise_cons.1 b.lev).1 y hym
    omega
/-- all done: all are met that lead there -/
theorem Bf.whole (b : Bf L i j far proc []) (hL : ∀ a b, L a b → a < b) : ∀ n k, i ≤ k → Di L j k n → far k = some n := by
  intro n
  induction n with
  | zero => intro k _ hk; have := hk.1; cases this; exact b.f2
  | succ n ih =>
    intro k hik hk
    obtain ⟨m, hl, hm⟩ := hk.next
    have hkm := hL _ _ hl
    have hmet := ih m (by omega) hm
    have hin := (b.mem m).2 (by rw [hmet]; rfl)
    rw [List.append_nil] at hin
    obtain ⟨n', hn'⟩ := Option.isSome_iff_exists.1 (b.closed m hin k hik hl)
    rw [hn', (b.f1 k n' hn').1.uniq hk]
theorem Bf.count (b : Bf L i j far proc todo) : proc.length + todo.length ≤ j + 1 := by
  have := nodup_bound (j + 1) (proc ++ todo) b.nd (fun x hx => by
    obtain ⟨n, hn⟩ := Option.isSome_iff_exists.1 ((b.mem x).1 hx)
    have := (b.f1 x n hn).2.2
    omega)
  rw [List.length_append] at this
  exact this
end
end Go.Vc
/- order: Chain. -/
namespace Go.Vc
open Go Go.Proofs
set_option maxRecDepth 10000
variable {w : World}
def farZ (far : Nat → Option Nat) (k : Int) : Option Value := if 0 ≤ k then (far k.toNat).map (fun n : Nat => I n) else none
def nearB (far : Nat → Option Nat) (next at_ : Nat) : Bool := match far next with
  | some n => decide (n + 1 = (far at_).getD 0)
  | none => false
section
variable {g : OrG} {E : List Ev} {R : List Int}
theorem Bf.first {L : Nat → Nat → Prop} {i j : Nat} {far : Nat → Option Nat} {proc : List Nat} {h : Nat} {r : List Nat} (b : Bf L i j far proc (h :: r)) : ∃ d, far h = some d ∧ h ≤ j ∧ i ≤ h := by
  obtain ⟨d, hd⟩ := Option.isSome_iff_exists.1 ((b.mem h).1 (by simp))
  have := b.f1 h d hd
  exact ⟨d, hd, this.2.2, this.2.1⟩
theorem Bf.le {L : Nat → Nat → Prop} {i j : Nat} {far : Nat → Option Nat} {proc todo : List Nat} (b : Bf L i j far proc todo) (hL : ∀ a b, L a b → a < b) {k n : Nat} (h : far k = some n) : n ≤ j := by
  have := (b.f1 k n h).1.1.le hL
  omega
end
end Go.Vc
/- order: race; All. -/
namespace Go.Vc
open Go Go.Proofs
set_option maxRecDepth 10000
variable {w : World}
def accB (e : Ev) : Bool := decide (e.k = 1) || decide (e.k = 2)
noncomputable def raceI (E : List Ev) (R : List Int) (i j : Nat) : Bool :=
  (accB (evA E i) && (accB (evA E j) && (decide ((evA E i).o = (evA E j).o) && !decide ((evA E i).t = (evA E j).t)))) && ((decide ((evA E i).k = 2) || decide ((evA E j).k = 2)) && !befI E R i j)
section
variable {g : OrG} {E : List Ev} {R : List Int}
end
end Go.Vc
/- order: All's iterator. -/
namespace Go.Vc
open Go Go.Proofs
set_option maxRecDepth 10000
variable {w : World}
abbrev P3 := Int × Nat × Nat
abbrev pairC (x : P3) : List Value := [I x.1, I x.2.1, I x.2.2]
abbrev pairE (x : P3) : List Value := [.agg ⟨pairC x⟩]
noncomputable def racesJ (E : List Ev) (R : List Int) (j i : Nat) : List P3 := (List.range i).filterMap fun i => if raceI E R i j = true then some ((evA E j).o, i, j) else none
noncomputable def racesN (E : List Ev) (R : List Int) (n : Nat) : List P3 := (List.range n).flatMap fun j => racesJ E R j j
theorem racesJ_succ (E : List Ev) (R : List Int) (j i : Nat) : racesJ E R j (i + 1) = racesJ E R j i ++ (if raceI E R i j = true then [((evA E j).o, i, j)] else []) := by
  unfold racesJ
  rw [List.range_succ, List.filterMap_append]
  congr 1
  simp only [List.filterMap_cons, List.filterMap_nil]
  split <;> rename_i h <;> (split at h <;> simp_all)
theorem racesN_succ (E : List Ev) (R : List Int) (n : Nat) : racesN E R (n + 1) = racesN E R n ++ racesJ E R n n := by
  unfold racesN
  rw [List.range_succ, List.flatMap_append]; simp
section
variable {g : OrG} {E : List Ev} {R : List Int}
theorem ReadS.heap {W : World} {ad : Option Addr} {xs : List Value} (h : ReadS w ad xs) (hp : ∀ b, b ∈ blkOf ad → W.heap[b]? = w.heap[b]?) : ReadS W ad xs := by
  cases ad with
  | none => exact h
  | some ad =>
    intro i v hv
    obtain ⟨b, off, he, hb, hc⟩ := h.at_ (by have := (List.getElem?_eq_some_iff.1 hv).1; omega)
    simp only [Option.some.injEq] at he
    subst he
    rw [addr_lit, ← hc i v hv]
    exact World.cell?_of_block (hp _ (by simp [blkOf]))
theorem OrAt.heap {W : World} (h : OrAt w g E R) (hp : ∀ b, b ∈ g.F → W.heap[b]? = w.heap[b]?) : OrAt W g E R := by
  have hb : ∀ {b : Nat} {l : List Value} {T : TypeId}, b ∈ g.F → Blk w b l T → Blk W b l T := fun hm hB => by unfold Blk; rw [hp _ hm]; exact hB
  have m1 : g.p ∈ g.F := by simp [OrG.F]
  have m2 : ∀ b, b ∈ blkOf g.ead → b ∈ g.F := fun b hb => by simp [OrG.F, hb]
  have m3 : ∀ b, b ∈ blkOf g.rad → b ∈ g.F := fun b hb => by simp [OrG.F, hb]
  have m4 : ∀ b, b ∈ relBlks g.rp g.mad g.bs → b ∈ g.F := fun b hb => by simp [OrG.F, hb]
  refine ⟨⟨hb m1 h.hdr, h.ev.heap (fun b hb => hp b (m2 b hb)), h.ro.heap (fun b hb => hp b (m3 b hb)), h.lr, h.small⟩, ?_, h.bits, fun b hb => ?_⟩
  rotate_left
  · have q := hp b hb
    rw [Array.getElem?_eq_getElem (h.fl b hb)] at q
    exact (Array.getElem?_eq_some_iff.1 q).1
  exact ⟨hb (m4 _ (by simp [relBlks])) h.rel.hdr, h.rel.own.keep (fun b hb => hp b (m4 _ (by simp [relBlks, hb]))), h.rel.nb, h.rel.nM, h.rel.small, fun i b ws h1 h2 => ⟨hb (m4 _ (by simp [relBlks, List.mem_of_getElem? h1])) (h.rel.row i b ws h1 h2).1, (h.rel.row i b ws h1 h2).2⟩, h.rel.nodup⟩
/-- a sequence of pairs: a function value that tells them -/
structure Seq3 (w : World) (v : Value) (Fp : List Nat) (xs : List P3) : Prop where
  is : ∃ f lb, v = .func (.func f) #[] ⟨lb⟩ ∧ Iter Tryz.prog f lb Fp pairE xs w
end
end Go.Vc
/- order: an order that is not there; orders there or not, in one form. -/
namespace Go.Vc
open Go Go.Proofs
set_option maxRecDepth 10000
variable {w : World}
/-- no order, or one of nothing -/
def AbsO (w : World) (p : Option Addr) : Prop := p = none ∨ ∃ b, p = some ⟨b, 0, none⟩ ∧ Blk w b [.slice none 0 0, .slice none 0 0, .pointer none] 186
theorem AbsO.kp0 {w' : World} {p : Option Addr} (h : AbsO w p) (hk : Kp [] w w') : AbsO w' p := by
  rcases h with h | ⟨b, h1, h2⟩
  · exact .inl h
  · exact .inr ⟨b, h1, hk.blk (by simp) h2⟩
theorem AbsO.heap {W : World} {p : Option Addr} (h : AbsO w p) (hp : ∀ b, b ∈ blkOf p → W.heap[b]? = w.heap[b]?) : AbsO W p := by
  rcases h with h | ⟨b, h1, h2⟩
  · exact .inl h
  · exact .inr ⟨b, h1, by unfold Blk; rw [hp b (by rw [h1]; simp [blkOf])]; exact h2⟩
section
variable {p : Option Addr}
theorem AbsO.lt (h : AbsO w p) : ∀ b, b ∈ blkOf p → b < w.heap.size := fun b hb => by
  rcases h with rfl | ⟨b', rfl, hB⟩
  · simp [blkOf] at hb
  · simp [blkOf] at hb; subst hb; exact hB.lt
end
/-- an order, there (F its blocks) or not -/
def OX (w : World) (p : Option Addr) (F : List Nat) (E : List Ev) (R : List Int) : Prop := (AbsO w p ∧ F = blkOf p ∧ E = [] ∧ R = []) ∨ ∃ g, p = some ⟨g.p, 0, none⟩ ∧ F = g.F ∧ OrAt w g E R
section
variable {p : Option Addr} {F : List Nat} {E : List Ev} {R : List Int}
theorem OX.kp0 {w' : World} (h : OX w p F E R) (hk : Kp [] w w') : OX w' p F E R := by
  rcases h with ⟨h1, h2⟩ | ⟨g, h1, h2, h3⟩
  · exact .inl ⟨h1.kp0 hk, h2⟩
  · exact .inr ⟨g, h1, h2, h3.kp0 hk⟩
theorem OX.lt (h : OX w p F E R) : ∀ b, b ∈ F → b < w.heap.size := by
  rcases h with ⟨h1, rfl, _⟩ | ⟨g, h1, rfl, h3⟩
  · exact h1.lt
  · exact h3.fl
theorem OX.small (h : OX w p F E R) : E.length ≤ 2048 := by
  rcases h with ⟨_, _, rfl, _⟩ | ⟨g, _, _, h3⟩
  · simp
  · exact h3.small
end
end Go.Vc
/- Outermost loops over functions in a function whose results lie in memory. -/
namespace Go.Vc
open Go
variable {P : Program} {n : Nat} {w : World}
section
variable {e : Env} {KM : MPost} {XM : List (Nat × MPost)} {RM : MPost} {ds : List Nat}
end
end Go.Vc
/- order: best, First, Pair. -/
namespace Go.Vc
open Go Go.Proofs
set_option maxRecDepth 10000
variable {w : World}
def bestGo (wb : P3 → Bool) : Option P3 → List P3 → Option P3
  | acc, [] => acc
  | acc, x :: r => match acc with
    | some b => if b.2.2 < x.2.2 then some b else bestGo wb (if wb x = true then some x else some b) r
    | none => bestGo wb (if wb x = true then some x else none) r
theorem bestGo_step (wb : P3 → Bool) (acc : Option P3) (x : P3) (r : List P3) (h : ∀ b, acc = some b → ¬ b.2.2 < x.2.2) : bestGo wb acc (x :: r) = bestGo wb (if wb x = true then some x else acc) r := by
  cases acc with
  | none => rfl
  | some b => simp only [bestGo]; rw [if_neg (h b rfl)]
theorem bestGo_stop (wb : P3 → Bool) (b x : P3) (r : List P3) (h : b.2.2 < x.2.2) : bestGo wb (some b) (x :: r) = some b := by
  simp only [bestGo]; rw [if_pos h]
def stopO (acc : Option P3) (x : P3) : Bool := match acc with
  | some b => decide (b.2.2 < x.2.2)
  | none => false
section
variable {p : Option Addr} {F : List Nat} {E : List Ev} {R : List Int}
end
end Go.Vc
/- order: First; the law's own small functions; lives. -/
namespace Go.Vc
open Go Go.Proofs
set_option maxRecDepth 10000
variable {w : World}
section
variable {g : OrG} {E : List Ev} {R : List Int}
theorem OrAt.lt (h : OrAt w g E R) : ∀ b, b ∈ g.F → b < w.heap.size := h.fl
noncomputable def firstV (E : List Ev) (R : List Int) : Option P3 := bestGo (fun _ => true) none (racesN E R E.length)
end
/-! ### lives -/
def sO : Shp := ⟨2, 1, 0, 1, []⟩
def evO1 : List Ev := [⟨7, 0, 1⟩, ⟨2, 0, 0⟩, ⟨1, 1, 0⟩]
def evO2 : List Ev := [⟨7, 0, 1⟩, ⟨5, 0, 0⟩, ⟨2, 0, 0⟩, ⟨6, 0, 0⟩, ⟨5, 1, 0⟩, ⟨1, 1, 0⟩]
def R1 : List Int := rnds sO evO1 3
def R2 : List Int := rnds sO evO2 6
theorem bef_next {E : List Ev} {R : List Int} {i : Nat} (h : befI E R i (i + 1 : Nat) = true) : lk E R i (i + 1) := by
  have h := befI_nat.1 h
  cases h with
  | one h => exact h
  | more h1 h2 => have := lk_lt h1; have := ch_lt h2; omega
theorem b12 : befI evO1 R1 (1 : Nat) (2 : Nat) = false := by
  rw [Bool.eq_false_iff]
  intro h
  exact absurd (bef_next h) (by decide)
end Go.Vc
