/- order: Past. -/
import Derived.Test.YtkgjibhbhddckaaQClBegins22
import Derived.Test.YtkgjibhbhddckaaQClBegins11
import Derived.ArgAppend
namespace Go.Vc
open Go Go.Proofs
set_option maxRecDepth 10000
variable {w : World}
section
variable {g : OrG} {E : List Ev} {R : List Int}
noncomputable def pastB (E : List Ev) (R : List Int) (i k : Int) : Bool := decide (k = i) || befI E R i k
noncomputable def pastL (E : List Ev) (R : List Int) (ks : List Int) (n : Nat) : List Int := ((List.range n).filter fun i : Nat => ks.any fun k => pastB E R i k).map fun i : Nat => (i : Int)
end
end Go.Vc
/- chains of least length: the plain law. No program. -/
namespace Go.Vc
/-- a way of so many links to j -/
inductive Pn (L : Nat → Nat → Prop) (j : Nat) : Nat → Nat → Prop
  | zero : Pn L j 0 j
  | succ {n k m : Nat} : L k m → Pn L j n m → Pn L j (n + 1) k
def Di (L : Nat → Nat → Prop) (j k n : Nat) : Prop := Pn L j n k ∧ ∀ m, m < n → ¬ Pn L j m k
/-- from each on to the least that is nearer -/
inductive ChainR (L : Nat → Nat → Prop) (j : Nat) : Nat → List Nat → Prop
  | done : ChainR L j j [j]
  | step {k m n : Nat} {l : List Nat} : Di L j k (n + 1) → k < m → L k m → Di L j m n → (∀ m', k < m' → m' < m → ¬ (L k m' ∧ Di L j m' n)) → ChainR L j m l → ChainR L j k (k :: l)
section
variable {L : Nat → Nat → Prop} {j : Nat}
theorem Di.uniq {k n m : Nat} (h : Di L j k n) (g : Di L j k m) : n = m := by
  rcases Nat.lt_trichotomy n m with q | q | q
  · exact absurd h.1 (g.2 n q)
  · exact q
  · exact absurd g.1 (h.2 m q)
theorem Di.self : Di L j j 0 := ⟨.zero, fun m hm => by omega⟩
theorem Pn.di {n k : Nat} (h : Pn L j n k) : ∃ m, m ≤ n ∧ Di L j k m := by
  induction n using Nat.strongRecOn generalizing k with
  | _ n ih =>
    by_cases q : ∃ m, m < n ∧ Pn L j m k
    · obtain ⟨m, hm, hp⟩ := q
      obtain ⟨m', h1, h2⟩ := ih m hm hp
      exact ⟨m', by omega, h2⟩
    · exact ⟨n, Nat.le_refl _, h, fun m hm hp => q ⟨m, hm, hp⟩⟩
theorem Di.next {k n : Nat} (h : Di L j k (n + 1)) : ∃ m, L k m ∧ Di L j m n := by
  obtain ⟨hp, hmin⟩ := h
  cases hp with
  | succ hl hm =>
    rename_i m
    exact ⟨m, hl, hm, fun m' hm' hp' => hmin (m' + 1) (by omega) (.succ hl hp')⟩
theorem Ch.pn {k : Nat} (h : Ch L k j) : ∃ n, Pn L j (n + 1) k := by
  induction h with
  | one h => exact ⟨0, .succ h .zero⟩
  | more h _ ih => obtain ⟨n, hn⟩ := ih; exact ⟨n + 1, .succ h hn⟩
theorem ChainR.uniq {k : Nat} {l l' : List Nat} (h : ChainR L j k l) (g : ChainR L j k l') : l = l' := by
  induction h generalizing l' with
  | done =>
    cases g with
    | done => rfl
    | step h1 => exact absurd .zero (h1.2 0 (by omega))
  | step h1 h2 h3 h4 h5 h6 ih =>
    cases g with
    | done => exact absurd .zero (h1.2 0 (by omega))
    | step g1 g2 g3 g4 g5 g6 =>
      rename_i k m n l m' n' l'
      have e := h1.uniq g1
      have e : n = n' := by omega
      subst e
      have em : m = m' := by
        rcases Nat.lt_trichotomy m m' with q | q | q
        · exact absurd ⟨h3, h4⟩ (g5 m h2 q)
        · exact q
        · exact absurd ⟨g3, g4⟩ (h5 m' g2 q)
      subst em
      rw [ih g6]
variable (hL : ∀ a b, L a b → a < b)
include hL
theorem Pn.le {n k : Nat} (h : Pn L j n k) : k + n ≤ j := by
  induction h with
  | zero => omega
  | succ hl _ ih => have := hL _ _ hl; omega
omit hL in
theorem nodup_bound : ∀ (n : Nat) (l : List Nat), l.Nodup → (∀ x ∈ l, x < n) → l.length ≤ n
  | 0, l, _, h => by
    cases l with
    | nil => simp
    | cons x r => have := h x (by simp); omega
  | n + 1, l, hd, h => by
    by_cases hm : n ∈ l
    · have := nodup_bound n (l.erase n) (hd.erase n) (fun x hx => by
        have h1 := (hd.mem_erase_iff).1 hx
        have := h x h1.2
        have := h1.1
        omega)
      rw [List.length_erase_of_mem hm] at this
      omega
    · have := nodup_bound n l hd (fun x hx => by
        have := h x hx
        have : x ≠ n := fun e => hm (e ▸ hx)
        omega)
      omega
end
/-! ### Level by level -/
structure Bf (L : Nat → Nat → Prop) (i j : Nat) (far : Nat → Option Nat) (proc todo : List Nat) : Prop where
  f1 : ∀ k n, far k = some n → Di L j k n ∧ i ≤ k ∧ k ≤ j
  f2 : far j = some 0
  mem : ∀ k, k ∈ proc ++ todo ↔ (far k).isSome = true
  nd : (proc ++ todo).Nodup
  closed : ∀ k ∈ proc, ∀ p, i ≤ p → L p k → (far p).isSome = true
  lev : todo.Pairwise fun a b => (far a).getD 0 ≤ (far b).getD 0
  span : ∀ h ∈ todo.head?, ∀ k ∈ todo, (far k).getD 0 ≤ (far h).getD 0 + 1
section
variable {L : Nat → Nat → Prop} {i j : Nat} {far : Nat → Option Nat} {proc todo : List Nat}
def upN (far : Nat → Option Nat) (k n : Nat) (x : Nat) : Option Nat := if x = k then some n else far x
theorem Bf.start (hij : i ≤ j) : Bf L i j (upN (fun _ => none) j 0) [] [j] where
  f1 := fun k n h => by
    unfold upN at h
    by_cases q : k = j
    · subst q; rw [if_pos rfl] at h; cases h; exact ⟨Di.self, hij, Nat.le_refl _⟩
    · rw [if_neg q] at h; cases h
  f2 := by simp [upN]
  mem := fun k => by
    unfold upN
    by_cases q : k = j
    · simp [q]
    · simp [q]
  nd := by simp
  closed := by simp
  lev := by simp
  span := by simp
/-- all that are as near as the head are met -/
theorem Bf.met {h : Nat} {r : List Nat} {d : Nat} (b : Bf L i j far proc (h :: r)) (hL : ∀ a b, L a b → a < b) (hd : far h = some d) : ∀ n, n ≤ d → ∀ k, i ≤ k → Di L j k n → (far k).isSome = true := by
  intro n
  induction n with
  | zero =>
    intro _ k _ hk
    have := hk.1
    cases this
    rw [b.f2]; rfl
  | succ n ih =>
    intro hn k hik hk
    obtain ⟨m, hl, hm⟩ := hk.next
    have hkm := hL _ _ hl
    have hmet := ih (by omega) m (by omega) hm
    obtain ⟨n', hn'⟩ := Option.isSome_iff_exists.1 hmet
    have e := (b.f1 m n' hn').1.uniq hm
    subst e
    have hin := (b.mem m).2 hmet
    rcases List.mem_append.1 hin with q | q
    · exact b.closed m q k hik hl
    · exfalso
      rcases List.mem_cons.1 q with e | q
      · subst e; rw [hd] at hn'; cases hn'; omega
      · have := (List.pairwise_cons.1 b.lev).1 m q
        rw [hd, hn'] at this
        simp at this; omega
/-- one is met -/
theorem Bf.push {h : Nat} {r : List Nat} {d k : Nat} (b : Bf L i j far proc (h :: r)) (hL : ∀ a b, L a b → a < b) (hd : far h = some d) (hk : far k = none) (hik : i ≤ k) (hl : L k h) : Bf L i j (upN far k (d + 1)) proc (h :: (r ++ [k])) := by
  have hkn : k ∉ proc ++ (h :: r) := fun q => by have := (b.mem k).1 q; rw [hk] at this; cases this
  have hhj := (b.f1 h d hd).2.2
  have hkh := hL _ _ hl
  have hdi : Di L j k (d + 1) := ⟨.succ hl (b.f1 h d hd).1.1, fun m hm hp => by
    obtain ⟨m', h1, h2⟩ := hp.di
    have := b.met hL hd m' (by omega) k hik h2
    rw [hk] at this; cases this⟩
  have old : ∀ x, x ∈ proc ++ (h :: r) → upN far k (d + 1) x = far x := fun x hx => by
    have hne : x ≠ k := fun e => hkn (by rw [← e]; exact hx)
    unfold upN; rw [if_neg hne]
  have oldr : ∀ x, x ∈ h :: r → upN far k (d + 1) x = far x := fun x hx => old x (List.mem_append_right _ hx)
  have e1 : upN far k (d + 1) k = some (d + 1) := by unfold upN; rw [if_pos rfl]
  have hk2 : k ≠ j := fun e => by subst e; rw [b.f2] at hk; cases hk
  refine ⟨fun x n hx => ?_, ?_, fun x => ?_, ?_, fun x hx p hp hlp => ?_, ?_, ?_⟩
  · unfold upN at hx
    by_cases q : x = k
    · subst q; rw [if_pos rfl] at hx; cases hx; exact ⟨hdi, hik, by omega⟩
    · rw [if_neg q] at hx; exact b.f1 x n hx
  · unfold upN; rw [if_neg (fun e => hk2 e.symm)]; exact b.f2
  · unfold upN
    have := b.mem x
    by_cases q : x = k
    · subst q; simp
    · rw [if_neg q, ← this]; simp [q]
  · have e : proc ++ (h :: (r ++ [k])) = (proc ++ (h :: r)) ++ [k] := by simp
    rw [e, List.nodup_append]
    exact ⟨b.nd, by simp, fun x hx y hy => by simp at hy; subst hy; exact fun e => hkn (e ▸ hx)⟩
  · have := b.closed x hx p hp hlp
    unfold upN
    split
    · rfl
    · exact this
  · have e : h :: (r ++ [k]) = (h :: r) ++ [k] := by simp
    rw [e, List.pairwise_append]
    refine ⟨?_, by simp, fun x hx y hy => ?_⟩
    · refine (List.Pairwise.imp_of_mem ?_ b.lev)
      intro x y hx hy hxy
      rw [oldr x hx, oldr y hy]; exact hxy
    · simp at hy; subst hy
      rw [oldr x hx, e1]
      have := b.span h (by simp) x hx
      rw [hd] at this
      simpa using this
  · intro y hy x hx
    simp at hy; subst hy
    rw [oldr h (by simp), hd]
    have hx' : x ∈ h :: r ∨ x = k := by simpa [or_assoc] using hx
    rcases hx' with q | q
    · rw [oldr x q]; have := b.span h (by simp) x q; rw [hd] at this; exact this
    · subst q; rw [e1]; simp
/-- the head is done -/
theorem Bf.pop {h : Nat} {r : List Nat} (b : Bf L i j far proc (h :: r)) (hc : ∀ p, i ≤ p → L p h → (far p).isSome = true) : Bf L i j far (proc ++ [h]) r where
  f1 := b.f1
  f2 := b.f2
  mem := fun k => by have := b.mem k; simp only [List.append_assoc, List.singleton_append]; exact this
  nd := by have := b.nd; simp only [List.append_assoc, List.singleton_append]; exact this
  closed := fun k hk => by
    rcases List.mem_append.1 hk with q | q
    · exact b.closed k q
    · simp at q; subst q; exact hc
  lev := (List.pairwise_cons.1 b.lev).2
  span := fun y hy x hx => by
    have hym : y ∈ r := List.mem_of_mem_head? hy
    have h1 := b.span h (by simp) x (by simp [hx])
    have h2 := (List.pairwise_cons.1 b.lev).1 y hym
    omega
/-- all done: all are met that lead there -/
theorem Bf.whole (b : Bf L i j far proc []) (hL : ∀ a b, L a b → a < b) : ∀ n k, i ≤ k → Di L j k n → far k = some n := by
  intro n
  induction n with
  | zero => intro k _ hk; have := hk.1; cases this; exact b.f2
  | succ n ih =>
    intro k hik hk
    obtain ⟨m, hl, hm⟩ := hk.next
    have hkm := hL _ _ hl
    have hmet := ih m (by omega) hm
    have hin := (b.mem m).2 (by rw [hmet]; rfl)
    rw [List.append_nil] at hin
    obtain ⟨n', hn'⟩ := Option.isSome_iff_exists.1 (b.closed m hin k hik hl)
    rw [hn', (b.f1 k n' hn').1.uniq hk]
theorem Bf.count (b : Bf L i j far proc todo) : proc.length + todo.length ≤ j + 1 := by
  have := nodup_bound (j + 1) (proc ++ todo) b.nd (fun x hx => by
    obtain ⟨n, hn⟩ := Option.isSome_iff_exists.1 ((b.mem x).1 hx)
    have := (b.f1 x n hn).2.2
    omega)
  rw [List.length_append] at this
  exact this
end
end Go.Vc
/- slices of one's own that begin within their row: the tail, the append of one. -/
namespace Go.Vc
open Go
variable {P : Program} {n : Nat} {a : Act} {e : Env} {w : World} {K : EPost} {X : List (Nat × EPost)} {R : EPost} {all : List Oper} {G : List Nat} {ro : Option Nat}
structure OwnO (w : World) (T : TypeId) (b off cap : Nat) (xs : List Value) : Prop where
  le : xs.length ≤ cap
  max : cap ≤ maxLen
  blk : ∃ pre junk, pre.length = off ∧ Blk w b (pre ++ (xs ++ junk)) T ∧ cap ≤ (xs ++ junk).length
theorem OwnO.kp {w' : World} {T : TypeId} {b off cap : Nat} {xs : List Value} {S : List Nat} (h : OwnO w T b off cap xs) (hk : Kp S w w') (hb : b ∉ S) : OwnO w' T b off cap xs :=
  ⟨h.le, h.max, by obtain ⟨p, j, h1, h2, h3⟩ := h.blk; exact ⟨p, j, h1, hk.blk hb h2, h3⟩⟩
theorem OwnO.lt {T : TypeId} {b off cap : Nat} {xs : List Value} (h : OwnO w T b off cap xs) : b < w.heap.size := by
  obtain ⟨_, _, _, h2, _⟩ := h.blk; exact h2.lt
theorem OwnO.get {T : TypeId} {b off cap : Nat} {xs : List Value} (h : OwnO w T b off cap xs) {i : Nat} {v : Value} (hv : xs[i]? = some v) : w.cell? ⟨b, off + i, none⟩ = some v := by
  obtain ⟨p, j, h1, h2, h3⟩ := h.blk
  refine h2.cell ?_
  rw [List.getElem?_append_right (by omega), h1, Nat.add_sub_cancel_left, List.getElem?_append_left (List.getElem?_eq_some_iff.1 hv).1]
  exact hv
theorem OwnO.tail {T : TypeId} {b off cap : Nat} {x : Value} {xs : List Value} (h : OwnO w T b off cap (x :: xs)) : OwnO w T b (offS off 1 cap 1) (cap - 1) xs := by
  have hl := h.le
  have hm := h.max
  rw [List.length_cons] at hl
  obtain ⟨p, j, h1, h2, h3⟩ := h.blk
  refine ⟨by omega, by omega, ?_⟩
  unfold offS
  by_cases hc : cap = 1
  · rw [if_pos hc]
    have : xs = [] := List.eq_nil_of_length_eq_zero (by omega)
    subst this
    exact ⟨p, x :: j, h1, h2, by simp; omega⟩
  · rw [if_neg hc]
    refine ⟨p ++ [x], j, by simp; omega, ?_, ?_⟩
    · simpa using h2
    · simp only [List.length_append, List.length_cons] at h3 ⊢; omega
theorem OwnO.of_blk {T : TypeId} {b : Nat} {xs : List Value} (h : Blk w b xs T) (hm : xs.length ≤ maxLen) : OwnO w T b 0 xs.length xs :=
  ⟨Nat.le_refl _, hm, [], [], rfl, by simpa using h, by simp⟩
section
variable {dst : Option Tmp} {ty : TypeId} {pos : String} {after : Array Edge} {g : Option (Nat × Bool)} {l : List Oper} {t : TypeId} {x y : Operand}
theorem o_appendO {T T' : TypeId} {td : TypeDesc} {tn : String} {tby : Nat} {thp : Bool} {tal tfa : Nat} {z : Value} {tcm : Bool} {tms : Array Method}
    {b off cap : Nat} {xs : List Value} {k by_ cy : Nat} {v : Value}
    (hx : ev e x = .slice (some ⟨b, off, none⟩) k cap) (hy : ev e y = .slice (some ⟨by_, 0, none⟩) 1 cy) (ho : OwnO w T b off cap xs) (hkx : xs.length = k) (hb : Blk w by_ [v] T')
    (hu : P.underlying t = some (.slice T)) (hi : P.info? T = some ⟨td, tn, 1, tby, thp, tal, tfa, some z, tcm, tms⟩) (hzs : z.cells.size = 1) (h1 : v.oneCell' = true)
    (h63 : k + 1 ≤ maxLen) (hby : (k + 1) * tby ≤ 140737488355328) (hd : dOk n dst = true) (hm : may all G e g = some true)
    (kk : ∀ b' off' cap' w', OwnO w' T b' off' cap' (xs ++ [v]) → Kp [b] w w' → (b' = b ∨ w.heap.size ≤ b') → Ops ro P n all G K l (put e dst (.slice (some ⟨b', off', none⟩) (k + 1) cap')) w') :
    Ops ro P n all G K (⟨dst, .call ⟨.builtin .append, #[x, y], #[t, t]⟩, ty, pos, after, g⟩ :: l) e w := by
  subst hkx
  have hn : ∀ j u, [v][j]? = some u → w.cell? ((⟨by_, 0, none⟩ : Addr).add j) = some u := fun j u hj => by
    match j, hj with
    | 0, hj => simp at hj; subst hj; simp only [addr_lit, Nat.zero_add]; exact hb.cell rfl
  obtain ⟨p, junk, hp, hB, hcap⟩ := ho.blk
  by_cases hroom : xs.length + 1 ≤ cap
  · have hj0 : xs.length < (xs ++ junk).length := by omega
    have hoff : off + xs.length < (p ++ (xs ++ junk)).length := by rw [List.length_append]; omega
    have hr := run_append_room_cells (P := P) w t ty T _ hu hi b off xs.length cap ⟨by_, 0, none⟩ 1 cy [v] rfl hn (by simpa using h1) hroom
      (fun j hj => by
        have : j = 0 := by simpa using hj
        subst this
        have := hB.cell (off := off + xs.length) (v := (p ++ (xs ++ junk))[off + xs.length]) (List.getElem?_eq_getElem hoff)
        simp only [Nat.mul_one, Nat.add_zero]
        rw [this]; rfl)
      (fun j hj => hB.free)
    simp only [Nat.mul_one] at hr
    have hset : w.setCells b (off + xs.length) [v] = w.setCell ⟨b, off + xs.length, none⟩ v := rfl
    rw [hset] at hr
    have hupd := upd_setCell (off := off + xs.length) hB v
    have e1 : (p ++ (xs ++ junk)).set (off + xs.length) v = p ++ ((xs ++ [v]) ++ junk.drop 1) := by
      have hj1 : junk ≠ [] := fun e => by subst e; simp at hj0
      obtain ⟨q, r, rfl⟩ := List.exists_cons_of_ne_nil hj1
      rw [List.set_append_right _ _ (by omega), hp, Nat.add_sub_cancel_left, List.set_append_right _ _ (Nat.le_refl _), Nat.sub_self]
      simp
    rw [e1] at hupd
    refine ops_does (v := .slice (some ⟨b, off, none⟩) (xs.length + 1) cap) hd hm ?_ (kk b off cap _ ⟨by simpa using hroom, ho.max, p, junk.drop 1, hp, hupd.blk, ?_⟩ (hupd.kp _ (.inl (by simp))) (.inl rfl))
    · simp only [execOp, resolve, Sem.run_bind, Sem.run_pure, Result.andThen_ok, invoke, builtin, List.map_toArray, List.map_cons, List.map_nil, hx, hy, hr]
    · simp only [List.length_append, List.length_drop, List.length_cons, List.length_nil] at hcap hj0 ⊢; omega
  · have hsmall : xs.length + 1 ≤ 9223372036854775807 := by simp only [maxLen] at h63; omega
    have holds : ∀ j u, xs[j]? = some u → w.cell? ((⟨b, off, none⟩ : Addr).add j) = some u := fun j u hj => by rw [addr_lit]; exact ho.get hj
    have hr := run_append_grow (P := P) w t ty T _ z hu hi rfl ⟨b, off, none⟩ xs.length cap xs (by simp) holds ⟨by_, 0, none⟩ 1 cy [v] rfl hn (by omega) (by omega) (growslice_fits (by omega) hby)
    have hge := grownCap_ge w (xs.length + 1) cap T
    have hcm := grownCap_le_maxLen w (xs.length + 1) cap T h63
    have hup := upd_alloc w.drew (.cells (xs.toArray ++ [v].toArray ++ Builtin.zeroCells z.cells (grownCap w (xs.length + 1) cap T - (xs.length + 1))) T)
    have e1 : xs.toArray ++ [v].toArray ++ Builtin.zeroCells z.cells (grownCap w (xs.length + 1) cap T - (xs.length + 1)) = ⟨xs ++ [v] ++ (Builtin.zeroCells z.cells (grownCap w (xs.length + 1) cap T - (xs.length + 1))).toList⟩ := by apply Array.ext'; simp
    rw [e1] at hup hr
    refine ops_does (v := .slice (some ⟨w.heap.size, 0, none⟩) (xs.length + 1) (grownCap w (xs.length + 1) cap T)) hd hm ?_ (kk w.heap.size 0 _ _ ⟨by simpa using hge, hcm, [], (Builtin.zeroCells z.cells (grownCap w (xs.length + 1) cap T - (xs.length + 1))).toList, rfl, hup.at_, ?_⟩ (hup.drew.kp _ (.inr (Nat.le_refl _))) (.inr (Nat.le_refl _)))
    · simp only [execOp, resolve, Sem.run_bind, Sem.run_pure, Result.andThen_ok, invoke, builtin, List.map_toArray, List.map_cons, List.map_nil, hx, hy, hr]
    · simp only [List.length_append, Array.length_toList, size_zeroCells, hzs, List.length_cons, List.length_nil]; omega
end
end Go.Vc
