/- order: Past. -/
import Derived.Test.YtkgjibhbhddckaaDoorQClKeeps35
import Derived.Test.YtkgjibhbhddckaaDoorQClKeeps19
import Derived.ArgAppend
import Derived.Test.YtkgjibhbhddckaaDoorQClKeeps6
namespace Go.Vc
open Go Go.Proofs
set_option maxRecDepth 10000
variable {w : World}
section
variable {g : OrG} {E : List Ev} {R : List Int}
noncomputable def pastB (E : List Ev) (R : List Int) (i k : Int) : Bool := decide (k = i) || befI E R i k
noncomputable def pastL (E : List Ev) (R : List Int) (ks : List Int) (n : Nat) : List Int := ((List.range n).filter fun i : Nat => ks.any fun k => pastB E R i k).map fun i : Nat => (i : Int)
end
end Go.Vc
/- chains of least length: the plain law. No program. -/
namespace Go.Vc
/-- a way of so many links to j -/
inductive Pn (L : Nat → Nat → Prop) (j : Nat) : Nat → Nat → Prop
  | zero : Pn L j 0 j
  | succ {n k m : Nat} : L k m → Pn L j n m → Pn L j (n + 1) k
def Di (L : Nat → Nat → Prop) (j k n : Nat) : Prop := Pn L j n k ∧ ∀ m, m < n → ¬ Pn L j m k
/-- from each on to the least that is nearer -/
inductive ChainR (L : Nat → Nat → Prop) (j : Nat) : Nat → List Nat → Prop
  | done : ChainR L j j [j]
  | step {k m n : Nat} {l : List Nat} : Di L j k (n + 1) → k < m → L k m → Di L j m n → (∀ m', k < m' → m' < m → ¬ (L k m' ∧ Di L j m' n)) → ChainR L j m l → ChainR L j k (k :: l)
section
variable {L : Nat → Nat → Prop} {j : Nat}
theorem Di.uniq {k n m : Nat} (h : Di L j k n) (g : Di L j k m) : n = m := by
  rcases Nat.lt_trichotomy n m with q | q | q
  · exact absurd h.1 (g.2 n q)
  · exact q
  · exact absurd g.1 (h.2 m q)
theorem Pn.di {n k : Nat} (h : Pn L j n k) : ∃ m, m ≤ n ∧ Di L j k m := by
  induction n using Nat.strongRecOn generalizing k with
  | _ n ih =>
    by_cases q : ∃ m, m < n ∧ Pn L j m k
    · obtain ⟨m, hm, hp⟩ := q
      obtain ⟨m', h1, h2⟩ := ih m hm hp
      exact ⟨m', by omega, h2⟩
    · exact ⟨n, Nat.le_refl _, h, fun m hm hp => q ⟨m, hm, hp⟩⟩
theorem Di.next {k n : Nat} (h : Di L j k (n + 1)) : ∃ m, L k m ∧ Di L j m n := by
  obtain ⟨hp, hmin⟩ := h
  cases hp with
  | succ hl hm =>
    rename_i m
    exact ⟨m, hl, hm, fun m' hm' hp' => hmin (m' + 1) (by omega) (.succ hl hp')⟩
theorem ChainR.uniq {k : Nat} {l l' : List Nat} (h : ChainR L j k l) (g : ChainR L j k l') : l = l' := by
  induction h generalizing l' with
  | done =>
    cases g with
    | done => rfl
    | step h1 => exact absurd .zero (h1.2 0 (by omega))
  | step h1 h2 h3 h4 h5 h6 ih =>
    cases g with
    | done => exact absurd .zero (h1.2 0 (by omega))
    | step g1 g2 g3 g4 g5 g6 =>
      rename_i k m n l m' n' l'
      have e := h1.uniq g1
      have e : n = n' := by omega
      subst e
      have em : m = m' := by
        rcases Nat.lt_trichotomy m m' with q | q | q
        · exact absurd ⟨h3, h4⟩ (g5 m h2 q)
        · exact q
        · exact absurd ⟨g3, g4⟩ (h5 m' g2 q)
      subst em
      rw [ih g6]
variable (hL : ∀ a b, L a b → a < b)
include hL
theorem Pn.le {n k : Nat} (h : Pn L j n k) : k + n ≤ j := by
  induction h with
  | zero => omega
  | succ hl _ ih => have := hL _ _ hl; omega
omit hL in
theorem nodup_bound : ∀ (n : Nat) (l : List Nat), l.Nodup → (∀ x ∈ l, x < n) → l.length ≤ n
  | 0, l, _, h => by
    cases l with
    | nil => simp
    | cons x r => have := h x (by simp); omega
  | n + 1, l, hd, h => by
    by_cases hm : n ∈ l
    · have := nodup_bound n (l.erase n) (hd.erase n) (fun x hx => by
        have h1 := (hd.mem_erase_iff).1 hx
        have := h x h1.2
        have := h1.1
        omega)
      rw [List.length_erase_of_mem hm] at this
      omega
    · have := nodup_bound n l hd (fun x hx => by
        have := h x hx
        have : x ≠ n := fun e => hm (e ▸ hx)
        omega)
      omega
end
/-! ### Level by level -/
structure Bf (L : Nat → Nat → Prop) (i j : Nat) (far : Nat → Option Nat) (proc todo : List Nat) : Prop where
  f1 : ∀ k n, far k = some n → Di L j k n ∧ i ≤ k ∧ k ≤ j
  f2 : far j = some 0
  mem : ∀ k, k ∈ proc ++ todo ↔ (far k).isSome = true
  nd : (proc ++ todo).Nodup
  closed : ∀ k ∈ proc, ∀ p, i ≤ p → L p k → (far p).isSome = true
  lev : todo.Pairwise fun a b => (far a).getD 0 ≤ (far b).getD 0
  span : ∀ h ∈ todo.head?, ∀ k ∈ todo, (far k).getD 0 ≤ (far h).getD 0 + 1
section
variable {L : Nat → Nat → Prop} {i j : Nat} {far : Nat → Option Nat} {proc todo : List Nat}
def upN (far : Nat → Option Nat) (k n : Nat) (x : Nat) : Option Nat := if x = k then some n else far x
/-- all that are as near as the head are met -/
theorem Bf.met {h : Nat} {r : List Nat} {d : Nat} (b : Bf L i j far proc (h :: r)) (hL : ∀ a b, L a b → a < b) (hd : far h = some d) : ∀ n, n ≤ d → ∀ k, i ≤ k → Di L j k n → (far k).isSome = true := by
  intro n
  induction n with
  | zero =>
    intro _ k _ hk
    have := hk.1
    cases this
    rw [b.f2]; rfl
  | succ n ih =>
    intro hn k hik hk
    obtain ⟨m, hl, hm⟩ := hk.next
    have hkm := hL _ _ hl
    have hmet := ih (by omega) m (by omega) hm
    obtain ⟨n', hn'⟩ := Option.isSome_iff_exists.1 hmet
    have e := (b.f1 m n' hn').1.uniq hm
    subst e
    have hin := (b.mem m).2 hmet
    rcases List.mem_append.1 hin with q | q
    · exact b.closed m q k hik hl
    · exfalso
      rcases List.mem_cons.1 q with e | q
      · subst e; rw [hd] at hn'; cases hn'; omega
      · have := (List.pairwise_cons.1 b.lev).1 m q
        rw [hd, hn'] at this
        simp at this; omega
/-- one is met -/
theorem Bf.push {h : Nat} {r : List Nat} {d k : Nat} (b : Bf L i j far proc (h :: r)) (hL : ∀ a b, L a b → a < b) (hd : far h = some d) (hk : far k = none) (hik : i ≤ k) (hl : L k h) : Bf L i j (upN far k (d + 1)) proc (h :: (r ++ [k])) := by
  have hkn : k ∉ proc ++ (h :: r) := fun q => by have := (b.mem k).1 q; rw [hk] at this; cases this
  have hhj := (b.f1 h d hd).2.2
  have hkh := hL _ _ hl
  have hdi : Di L j k (d + 1) := ⟨.succ hl (b.f1 h d hd).1.1, fun m hm hp => by
    obtain ⟨m', h1, h2⟩ := hp.di
    have := b.met hL hd m' (by omega) k hik h2
    rw [hk] at this; cases this⟩
  have old : ∀ x, x ∈ proc ++ (h :: r) → upN far k (d + 1) x = far x := fun x hx => by
    have hne : x ≠ k := fun e => hkn (by rw [← e]; exact hx)
    unfold upN; rw [if_neg hne]
  have oldr : ∀ x, x ∈ h :: r → upN far k (d + 1) x = far x := fun x hx => old x (List.mem_append_right _ hx)
  have e1 : upN far k (d + 1) k = some (d + 1) := by unfold upN; rw [if_pos rfl]
  have hk2 : k ≠ j := fun e => by subst e; rw [b.f2] at hk; cases hk
  refine ⟨fun x n hx => ?_, ?_, fun x => ?_, ?_, fun x hx p hp hlp => ?_, ?_, ?_⟩
  · unfold upN at hx
    by_cases q : x = k
    · subst q; rw [if_pos rfl] at hx; cases hx; exact ⟨hdi, hik, by omega⟩
    · rw [if_neg q] at hx; exact b.f1 x n hx
  · unfold upN; rw [if_neg (fun e => hk2 e.symm)]; exact b.f2
  · unfold upN
    have := b.mem x
    by_cases q : x = k
    · subst q; simp
    · rw [if_neg q, ← this]; simp [q]
  · have e : proc ++ (h :: (r ++ [k])) = (proc ++ (h :: r)) ++ [k] := by simp
    rw [e, List.nodup_append]
    exact ⟨b.nd, by simp, fun x hx y hy => by simp at hy; subst hy; exact fun e => hkn (e ▸ hx)⟩
  · have := b.closed x hx p hp hlp
    unfold upN
    split
    · rfl
    · exact this
  · have e : h :: (r ++ [k]) = (h :: r) ++ [k] := by simp
    rw [e, List.pairwise_append]
    refine ⟨?_, by simp, fun x hx y hy => ?_⟩
    · refine (List.Pairwise.imp_of_mem ?_ b.lev)
      intro x y hx hy hxy
      rw [oldr x hx, oldr y hy]; exact hxy
    · simp at hy; subst hy
      rw [oldr x hx, e1]
      have := b.span h (by simp) x hx
      rw [hd] at this
      simpa using this
  · intro y hy x hx
    simp at hy; subst hy
    rw [oldr h (by simp), hd]
    have hx' : x ∈ h :: r ∨ x = k := by simpa [or_assoc] using hx
    rcases hx' with q | q
    · rw [oldr x q]; have := b.span h (by simp) x q; rw [hd] at this; exact this
    · subst q; rw [e1]; simp
/-- the head is done -/
theorem Bf.pop {h : Nat} {r : List Nat} (b : Bf L i j far proc (h :: r)) (hc : ∀ p, i ≤ p → L p h → (far p).isSome = true) : Bf L i j far (proc ++ [h]) r where
  f1 := b.f1
  f2 := b.f2
  mem := fun k => by have := b.mem k; simp only [List.append_assoc, List.singleton_append]; exact this
  nd := by have := b.nd; simp only [List.append_assoc, List.singleton_append]; exact this
  closed := fun k hk => by
    rcases List.mem_append.1 hk with q | q
    · exact b.closed k q
    · simp at q; subst q; exact hc
  lev := (List.pairwise_cons.1 b.lev).2
  span := fun y hy x hx => by
    have hym : y ∈ r := List.mem_of_mem_head? hy
    have h1 := b.span h (by simp) x (by simp [hx])
    have h2 := (List.pairwise_cons.1 b.lev).1 y hym
    omega
/-- all done: all are met that lead there -/
theorem Bf.whole (b : Bf L i j far proc []) (hL : ∀ a b, L a b → a < b) : ∀ n k, i ≤ k → Di L j k n → far k = some n := by
  intro n
  induction n with
  | zero => intro k _ hk; have := hk.1; cases this; exact b.f2
  | succ n ih =>
    intro k hik hk
    obtain ⟨m, hl, hm⟩ := hk.next
    have hkm := hL _ _ hl
    have hmet := ih m (by omega) hm
    have hin := (b.mem m).2 (by rw [hmet]; rfl)
    rw [List.append_nil] at hin
    obtain ⟨n', hn'⟩ := Option.isSome_iff_exists.1 (b.closed m hin k hik hl)
    rw [hn', (b.f1 k n' hn').1.uniq hk]
theorem Bf.count (b : Bf L i j far proc todo) : proc.length + todo.length ≤ j + 1 := by
  have := nodup_bound (j + 1) (proc ++ todo) b.nd (fun x hx => by
    obtain ⟨n, hn⟩ := Option.isSome_iff_exists.1 ((b.mem x).1 hx)
    have := (b.f1 x n hn).2.2
    omega)
  rw [List.length_append] at this
  exact this
end
end Go.Vc
/- slices of one's own that begin within their row: the tail, the append of one. -/
namespace Go.Vc
open Go
variable {P : Program} {n : Nat} {a : Act} {e : Env} {w : World} {K : EPost} {X : List (Nat × EPost)} {R : EPost} {all : List Oper} {G : List Nat} {ro : Option Nat}
structure OwnO (w : World) (T : TypeId) (b off cap : Nat) (xs : List Value) : Prop where
  le : xs.length ≤ cap
  max : cap ≤ maxLen
  blk : ∃ pre junk, pre.length = off ∧ Blk w b (pre ++ (xs ++ junk)) T ∧ cap ≤ (xs ++ junk).length
theorem OwnO.kp {w' : World} {T : TypeId} {b off cap : Nat} {xs : List Value} {S : List Nat} (h : OwnO w T b off cap xs) (hk : Kp S w w') (hb : b ∉ S) : OwnO w' T b off cap xs :=
  ⟨h.le, h.max, by obtain ⟨p, j, h1, h2, h3⟩ := h.blk; exact ⟨p, j, h1, hk.blk hb h2, h3⟩⟩
theorem OwnO.lt {T : TypeId} {b off cap : Nat} {xs : List Value} (h : OwnO w T b off cap xs) : b < w.heap.size := by
  obtain ⟨_, _, _, h2, _⟩ := h.blk; exact h2.lt
theorem OwnO.get {T : TypeId} {b off cap : Nat} {xs : List Value} (h : OwnO w T b off cap xs) {i : Nat} {v : Value} (hv : xs[i]? = some v) : w.cell? ⟨b, off + i, none⟩ = some v := by
  obtain ⟨p, j, h1, h2, h3⟩ := h.blk
  refine h2.cell ?_
  rw [List.getElem?_append_right (by omega), h1, Nat.add_sub_cancel_left, List.getElem?_append_left (List.getElem?_eq_some_iff.1 hv).1]
  exact hv
theorem OwnO.tail {T : TypeId} {b off cap : Nat} {x : Value} {xs : List Value} (h : OwnO w T b off cap (x :: xs)) : OwnO w T b (offS off 1 cap 1) (cap - 1) xs := by
  have hl := h.le
  have hm := h.max
  rw [List.length_cons] at hl
  obtain ⟨p, j, h1, h2, h3⟩ := h.blk
  refine ⟨by omega, by omega, ?_⟩
  unfold offS
  by_cases hc : cap = 1
  · rw [if_pos hc]
    have : xs = [] := List.eq_nil_of_length_eq_zero (by omega)
    subst this
    exact ⟨p, x :: j, h1, h2, by simp; omega⟩
  · rw [if_neg hc]
    refine ⟨p ++ [x], j, by simp; omega, ?_, ?_⟩
    · simpa using h2
    · simp only [List.length_append, List.length_cons] at h3 ⊢; omega
section
variable {dst : Option Tmp} {ty : TypeId} {pos : String} {after : Array Edge} {g : Option (Nat × Bool)} {l : List Oper} {t : TypeId} {x y : Operand}
end
end Go.Vc
/- order: Chain. -/
namespace Go.Vc
open Go Go.Proofs
set_option maxRecDepth 10000
variable {w : World}
def farZ (far : Nat → Option Nat) (k : Int) : Option Value := if 0 ≤ k then (far k.toNat).map (fun n : Nat => I n) else none
def nearB (far : Nat → Option Nat) (next at_ : Nat) : Bool := match far next with
  | some n => decide (n + 1 = (far at_).getD 0)
  | none => false
section
variable {g : OrG} {E : List Ev} {R : List Int}
theorem Bf.first {L : Nat → Nat → Prop} {i j : Nat} {far : Nat → Option Nat} {proc : List Nat} {h : Nat} {r : List Nat} (b : Bf L i j far proc (h :: r)) : ∃ d, far h = some d ∧ h ≤ j ∧ i ≤ h := by
  obtain ⟨d, hd⟩ := Option.isSome_iff_exists.1 ((b.mem h).1 (by simp))
  have := b.f1 h d hd
  exact ⟨d, hd, this.2.2, this.2.1⟩
theorem Bf.le {L : Nat → Nat → Prop} {i j : Nat} {far : Nat → Option Nat} {proc todo : List Nat} (b : Bf L i j far proc todo) (hL : ∀ a b, L a b → a < b) {k n : Nat} (h : far k = some n) : n ≤ j := by
  have := (b.f1 k n h).1.1.le hL
  omega
end
end Go.Vc
/- order: race; All. -/
namespace Go.Vc
open Go Go.Proofs
set_option maxRecDepth 10000
variable {w : World}
def accB (e : Ev) : Bool := decide (e.k = 1) || decide (e.k = 2)
noncomputable def raceI (E : List Ev) (R : List Int) (i j : Nat) : Bool :=
  (accB (evA E i) && (accB (evA E j) && (decide ((evA E i).o = (evA E j).o) && !decide ((evA E i).t = (evA E j).t)))) && ((decide ((evA E i).k = 2) || decide ((evA E j).k = 2)) && !befI E R i j)
theorem oaccess_ret (x : Ev) : Ret Tryd.prog 100 [.agg ⟨evC x⟩] w (fun v w' => v = .bool (accB x) ∧ Kp [] w w') := by
  refine enter Tryd.call100 Tryd.func100 rfl rfl rfl rfl ?_
  (repeat first|refine zA ?_|refine zg ?_)
  refine o_box rfl rfl rfl ?_
  intro bx w1 hbx hu1
  have hB1 : Blk w1 bx (evC x) 35 := hu1.blk
  have k1 : Kp [] w w1 := hu1.kp [] (.inr (by omega))
  (repeat first|refine zA ?_|refine zg ?_|refine zo rfl rfl trivial ?_|refine zn ?_)
  refine o_load (v := I x.k) rfl hB1 rfl rfl rfl rfl rfl ?_
  (repeat refine zo rfl rfl trivial ?_)
  by_cases h : x.k = 1
  · refine o_is true 3 false rfl rfl rfl (decide_eq_true h) ?_
    (repeat first|refine zo rfl rfl trivial ?_|refine zn ?_|refine zr ?_)
    exact ⟨_, rfl, by unfold accB; rw [decide_eq_true h]; rfl, k1⟩
  · refine o_is false 3 false rfl rfl rfl (decide_eq_false h) ?_
    (repeat refine zo rfl rfl trivial ?_)
    refine o_load (v := I x.k) rfl hB1 rfl rfl rfl rfl rfl ?_
    (repeat first|refine zo rfl rfl trivial ?_|refine zn ?_|refine zr ?_)
    exact ⟨_, rfl, by unfold accB; rw [decide_eq_false h]; rfl, k1⟩
section
variable {g : OrG} {E : List Ev} {R : List Int}
set_option maxHeartbeats 6400000 in
theorem orace_ret (h : OrAt w g E R) {i j : Nat} (hi : i < E.length) (hj : j < E.length) : Ret Tryd.prog 89 [ptr g.p, I i, I j] w (fun v w' => v = .bool (raceI E R i j) ∧ Kp [] w w') := by
  have hsm := h.small
  obtain ⟨eb, eo, hea, hei⟩ := h.toOrB.evat (i := i) (by omega) (by omega)
  obtain ⟨eb2, eo2, hea2, hej⟩ := h.toOrB.evat (i := j) (by omega) (by omega)
  rw [hea] at hea2
  cases hea2
  rw [Int.toNat_natCast] at hei hej
  have hh := h.hdr
  rw [hea] at hh
  unfold raceI
  generalize evA E i = a at hei ⊢
  generalize evA E j = b at hej ⊢
  refine enter Tryd.call89 Tryd.func89 rfl rfl rfl rfl ?_
  (repeat first|refine zA ?_|refine zg ?_|refine zo rfl rfl trivial ?_|refine zn ?_)
  refine r_seq ?_
  refine r_cut (α := Nat × Nat) [0, 1, 2, 7, 8] (fun x => [ptr g.p, I i, I j, ptr x.1, ptr x.2]) (fun x w' => Kp [] w w' ∧ Blk w' x.1 (evC a) 35 ∧ Blk w' x.2 (evC b) 35) ?_ ?_
  · refine r_any (fun w' => Kp [] w w') 18 follows_mixed (by kernel_rfl) ?_
    have kk := (Sm.drew w).kp []
    generalize ({ w with drawn := w.drawn + 1 } : World) = wd at kk ⊢
    refine t_seg [0, 1, 2, 3, 4, 5, 6, 7, 8, 9, 10, 11, 12, 13] 4 (by kernel_rfl) (by kernel_rfl) (by kernel_rfl) kk ?_
    try dsimp only [List.map_cons, List.map_nil]
    (repeat refine xo rfl rfl trivial ?_)
    refine x_load (v := .slice (some ⟨eb, eo, none⟩) E.length g.ecap) rfl rfl (fun w' h' => (h'.blk (by simp) hh).cell rfl) rfl rfl rfl rfl ?_
    (repeat refine xo rfl rfl (by first|exact trivial|(simp only[AllP];omega)) ?_)
    refine x_loadA (b := eb) (off := eo + i * 3) (vs := evC a) rfl rfl (fun w' h' => hei w' h') rfl rfl rfl rfl rfl rfl ?_
    (repeat refine xo rfl rfl trivial ?_)
    refine x_load (v := .slice (some ⟨eb, eo, none⟩) E.length g.ecap) rfl rfl (fun w' h' => (h'.blk (by simp) hh).cell rfl) rfl rfl rfl rfl ?_
    (repeat refine xo rfl rfl (by first|exact trivial|(simp only[AllP];omega)) ?_)
    refine x_loadA (b := eb) (off := eo + j * 3) (vs := evC b) rfl rfl (fun w' h' => hej w' h') rfl rfl rfl rfl rfl rfl ?_
    (repeat refine xn ?_)
    refine t_with (fun e w' => ∃ ba bb : Nat, [0, 1, 2, 15, 22, 7, 8].map e = [ptr g.p, I i, I j, .agg ⟨evC a⟩, .agg ⟨evC b⟩, ptr ba, ptr bb] ∧ Kp [] w w' ∧ Blk w' ba [I 0, I 0, I 0] 35 ∧ Blk w' bb [I 0, I 0, I 0] 35 ∧ ba ≠ bb ∧ w.heap.size ≤ ba ∧ w.heap.size ≤ bb) 2 [0, 1, 2, 3, 4, 5, 6, 7, 8, 9, 10, 11, 12, 13, 14, 15] ?_ (fun hleaf => ?_)
    · rintro e wz ⟨ba, bb, he, kz, hA, hB, hne, hna, hnb⟩
      rw [← over_eq he]
      refine t_one 16 (by kernel_rfl) rfl ?_
      refine o_storeA (cs := evC a) rfl hA (by simp) rfl (by simp [Value.oneCell']) rfl rfl rfl rfl ?_
      intro w3 hu3
      have k3 := kz.since (hu3.kp [ba] (.inl (by simp))) (by simp; omega)
      have hA3 : Blk w3 ba (evC a) 35 := hu3.blk
      have hB3 := hu3.kept (fun e => hne e.symm) hB
      refine o_nil ⟨.inr k3, ?_⟩
      refine t_one 17 (by kernel_rfl) rfl ?_
      refine o_storeA (cs := evC b) rfl hB3 (by simp) rfl (by simp [Value.oneCell']) rfl rfl rfl rfl ?_
      intro w4 hu4
      have k4 := k3.since (hu4.kp [bb] (.inl (by simp))) (by simp; omega)
      have hB4 : Blk w4 bb (evC b) 35 := hu4.blk
      have hA4 := hu4.kept hne hA3
      refine o_nil ⟨.inl (by kernel_rfl), ?_⟩
      refine t_end (by kernel_rfl) ?_
      exact ⟨(ba, bb), rfl, k4, hA4, hB4⟩
    refine t_two 14 15 (by kernel_rfl) rfl rfl ?_ ?_
    · refine o_alloc rfl rfl rfl rfl ?_
      intro ba w3 hba hu3
      have k3 := kk.trans (hu3.kp [] (.inr (by omega)))
      have z3 := hu3.lt
      refine o_nil ⟨.inr k3, ?_⟩
      refine t_one 15 (by kernel_rfl) rfl ?_
      refine o_alloc rfl rfl rfl rfl ?_
      intro bb w4 hbb hu4
      have k4 := k3.trans (hu4.kp [] (.inr (by omega)))
      have zk := kk.size
      refine o_nil ⟨.inr k4, ?_⟩
      exact t_same (by kernel_rfl) (hleaf _ _ ⟨ba, bb, rfl, k4, hu4.kept (by omega) hu3.blk, hu4.blk, by omega, by omega, by omega⟩)
    · refine o_alloc rfl rfl rfl rfl ?_
      intro bb w3 hbb hu3
      have k3 := kk.trans (hu3.kp [] (.inr (by omega)))
      have z3 := hu3.lt
      refine o_nil ⟨.inr k3, ?_⟩
      refine t_one 14 (by kernel_rfl) rfl ?_
      refine o_alloc rfl rfl rfl rfl ?_
      intro ba w4 hba hu4
      have k4 := k3.trans (hu4.kp [] (.inr (by omega)))
      have zk := kk.size
      refine o_nil ⟨.inr k4, ?_⟩
      exact t_same (by kernel_rfl) (hleaf _ _ ⟨ba, bb, rfl, k4, hu4.blk, hu4.kept (by omega) hu3.blk, by omega, by omega, by omega⟩)
  rintro ⟨ba, bb⟩ e w2 ⟨k2, hA, hB⟩
  dsimp only at hA hB ⊢
  (repeat first|refine zA ?_|refine zB ?_|refine zg ?_)
  refine o_loadA (vs := evC a) rfl (fun j v hv => by rw [Nat.zero_add]; exact hA.cell hv) rfl rfl rfl rfl rfl rfl ?_
  refine o_call (oaccess_ret a) rfl rfl rfl ?_
  rintro v w3 ⟨rfl, k3⟩
  have hA3 := k3.blk (by simp) hA
  have hB3 := k3.blk (by simp) hB
  have k23 := k2.trans k3
  cases q0 : accB a with
  | false =>
    (repeat first|refine zA ?_|refine zg ?_|refine zo rfl rfl trivial ?_|refine zn ?_|refine zr ?_|refine zT rfl rfl rfl ?_|refine zt rfl ?_)
    exact ⟨_, rfl, rfl, k23⟩
  | true =>
  (repeat first|refine zo rfl rfl trivial ?_|refine zU rfl rfl rfl ?_)
  refine o_loadA (vs := evC b) rfl (fun j v hv => by rw [Nat.zero_add]; exact hB3.cell hv) rfl rfl rfl rfl rfl rfl ?_
  refine o_call (oaccess_ret b) rfl rfl rfl ?_
  rintro v w4 ⟨rfl, k4⟩
  have hA4 := k4.blk (by simp) hA3
  have hB4 := k4.blk (by simp) hB3
  have k24 := k23.trans k4
  cases q1 : accB b with
  | false =>
    (repeat first|refine zA ?_|refine zg ?_|refine zo rfl rfl trivial ?_|refine zn ?_|refine zr ?_|refine zT rfl rfl rfl ?_|refine zt rfl ?_)
    exact ⟨_, rfl, rfl, k24⟩
  | true =>
  (repeat first|refine zo rfl rfl trivial ?_|refine zU rfl rfl rfl ?_)
  refine o_load (b := ba) (off := 2) (v := I a.o) rfl hA4 rfl rfl rfl rfl rfl ?_
  (repeat refine zo rfl rfl trivial ?_)
  refine o_load (b := bb) (off := 2) (v := I b.o) rfl hB4 rfl rfl rfl rfl rfl ?_
  (repeat refine zo rfl rfl trivial ?_)
  by_cases q2 : a.o = b.o
  rotate_left
  · refine o_is true 15 false rfl rfl rfl (by simp [q2]) ?_
    (repeat first|refine zA ?_|refine zg ?_|refine zo rfl rfl trivial ?_|refine zn ?_|refine zr ?_|refine zt rfl ?_)
    exact ⟨_, rfl, by simp [q2], k24⟩
  refine o_is false 15 false rfl rfl rfl (by simp [q2]) ?_
  (repeat refine zo rfl rfl trivial ?_)
  refine o_load (b := ba) (off := 1) (v := I a.t) rfl hA4 rfl rfl rfl rfl rfl ?_
  (repeat refine zo rfl rfl trivial ?_)
  refine o_load (b := bb) (off := 1) (v := I b.t) rfl hB4 rfl rfl rfl rfl rfl ?_
  (repeat first|refine zo rfl rfl trivial ?_|refine zn ?_)
  by_cases q3 : a.t = b.t
  · refine r_yes rfl (by simp [q3]) ?_
    (repeat first|refine zA ?_|refine zg ?_|refine zo rfl rfl trivial ?_|refine zn ?_|refine zr ?_)
    exact ⟨_, rfl, by simp [q3], k24⟩
  refine r_no rfl (by simp [q3]) ?_
  have hfin : ∀ x y : Bool, ((true && (true && (decide (a.o = b.o) && !decide (a.t = b.t)))) && (x && y)) = (x && y) := fun x y => by simp [q2, q3]
  rw [hfin]
  have h4 := h.kp0 k24
  (repeat first|refine zA ?_|refine zg ?_|refine zo rfl rfl trivial ?_|refine zk ?_)
  refine o_load (b := ba) (off := 0) (v := I a.k) rfl hA4 rfl rfl rfl rfl rfl ?_
  (repeat refine zo rfl rfl trivial ?_)
  by_cases q4 : a.k = 2
  · refine o_is true 3 false rfl rfl rfl (decide_eq_true q4) ?_
    (repeat first|refine zo rfl rfl trivial ?_|refine zT rfl rfl rfl ?_)
    refine o_call (oBefore_ret h4 i j) rfl rfl rfl ?_
    rintro v w5 ⟨rfl, rfl⟩
    (repeat first|refine zo rfl rfl trivial ?_|refine zn ?_|refine zr ?_)
    exact ⟨_, rfl, by rw [decide_eq_true q4]; rfl, k24⟩
  refine o_is false 3 false rfl rfl rfl (decide_eq_false q4) ?_
  (repeat refine zo rfl rfl trivial ?_)
  refine o_load (b := bb) (off := 0) (v := I b.k) rfl hB4 rfl rfl rfl rfl rfl ?_
  (repeat refine zo rfl rfl trivial ?_)
  by_cases q5 : b.k = 2
  · refine o_is true 8 true rfl rfl rfl (decide_eq_true q5) ?_
    (repeat refine zo rfl rfl trivial ?_)
    refine o_call (oBefore_ret h4 i j) rfl rfl rfl ?_
    rintro v w5 ⟨rfl, rfl⟩
    (repeat first|refine zo rfl rfl trivial ?_|refine zn ?_|refine zr ?_)
    exact ⟨_, rfl, by rw [decide_eq_true q5, Bool.or_true, Bool.true_and], k24⟩
  · refine o_is false 8 true rfl rfl rfl (decide_eq_false q5) ?_
    (repeat first|refine zo rfl rfl trivial ?_|refine zn ?_|refine zr ?_)
    exact ⟨_, rfl, by rw [decide_eq_false q4, decide_eq_false q5]; rfl, k24⟩
end
end Go.Vc
