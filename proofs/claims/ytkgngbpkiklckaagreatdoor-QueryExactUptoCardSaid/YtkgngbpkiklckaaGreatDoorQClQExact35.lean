/- Parts of a proof. -/
import Derived.Test.YtkgngbpkiklckaaGreatDoorQClQExact34
import Derived.Scope
set_option maxHeartbeats 12800000
namespace Go.Vc
open Go Go.Proofs
set_option maxRecDepth 20000
section
variable {w : World}
theorem Rename30_ret {l : List QN} {ad : Option Addr} {cap : Nat} (hR : Rows w ad cap l) (a c : List UInt8) (ha : a.length ≤ 9223372036854775806) (hcn : c.length ≤ 9223372036854775806) :
  Ret Tryz.prog 31 [qV ad l.length cap, S a, S c] w (fun v w' => RenV (renM l a c) w v w' ∧ Kp [] w w') := by
 have hm := hR.max_
 have hcl := hR.len
 have hren : renM l a c = match Jh1 l with | none => .error 305 | some _ => if Jc5 a = false ∨ Jc5 c = false then .error 303 else .ok (l.map (renN a c)) := rfl
 refine Zd Tryz.call31 Tryz.func31 ?_
 refine zS ?_
 refine Zx ?_
 intro b3 w1 e3 hu1
 refine Za ?_
 intro b6 w2 e6 hu2
 have k1 : Kp [] w w1 := hu1.new oM
 have k2 : Kp [] w1 w2 := hu2.new oM
 have g3 : Blk w2 b3 [.slice ad l.length cap] 24 := k2.b0 hu1.blk
 have g6 : Blk w2 b6 [.slice none 0 0] 24 := hu2.blk
 have y1 := k1.size
 have n6 : w.heap.size ≤ b6 := oM
 have l6 := g6.lt
 have k0 := k1.trans k2
 clear hu1 hu2
 have fin : ∀ {e : Env} {W : World} {ad : Option Addr} {n cap : Nat} {x : Int}, e 6 = ptr b6 → e 7 = I x → Blk W b6 [.slice ad n cap] 24 → resC Tryz.prog e W [.cell 6 24, .tmp 7] [qV ad n cap, I x] := fun h1 h2 h3 => ⟨⟨_, h1, Jb9 h3 rfl rfl rfl rfl⟩, ⟨none, by rw [h2]; rfl⟩, trivial⟩
 refine zS ?_
 refine Zm (vs := [.slice ad l.length cap]) rfl g3.cs ?_
 refine Zc (Qe8 (hR.kp k0 sI)) ?_
 rintro v w3 ⟨rfl, k3⟩
 have g3 := k3.b0 g3
 have g6 := k3.b0 g6
 have k0 := k0.trans k3
 cases hw : Jh1 l with
 | none =>
  rw [hw] at hren
  rw [hren]
  refine zS ?_
  refine Zb [.slice none 0 0] ?_
  refine Zs (b := b6) (cs := [.slice none 0 0]) rfl g6 lR rfl (by simp [Value.oneCell']) ?_
  intro w4 hu4
  refine zS ?_
  exact ⟨_, fin rfl rfl hu4.blk, rfl, k0.since (hu4.kp [b6] (.inl sI)) (by simpa using n6)⟩
 | some t =>
  rw [hw] at hren
  dsimp only at hren
  refine zS ?_
  refine Zc (Jj9 a ha) ?_
  rintro v w4 ⟨rfl, k4⟩
  have g3 := k4.b0 g3
  have g6 := k4.b0 g6
  have k0 := k0.trans k4
  cases hna : Jc5 a with
  | false =>
   rw [if_pos (.inl hna)] at hren
   rw [hren]
   refine zS ?_
   refine Zb [.slice none 0 0] ?_
   refine Zs (b := b6) (cs := [.slice none 0 0]) rfl g6 lR rfl (by simp [Value.oneCell']) ?_
   intro w5 hu5
   refine zS ?_
   exact ⟨_, fin rfl rfl hu5.blk, rfl, k0.since (hu5.kp [b6] (.inl sI)) (by simpa using n6)⟩
  | true =>
  refine zS ?_
  refine Zc (Jj9 c hcn) ?_
  rintro v w5 ⟨rfl, k5⟩
  have g3 := k5.b0 g3
  have g6 := k5.b0 g6
  have k0 := k0.trans k5
  cases hnc : Jc5 c with
  | false =>
   rw [if_pos (.inr hnc)] at hren
   rw [hren]
   refine zS ?_
   refine Zb [.slice none 0 0] ?_
   refine Zs (b := b6) (cs := [.slice none 0 0]) rfl g6 lR rfl (by simp [Value.oneCell']) ?_
   intro w5 hu5
   refine zS ?_
   exact ⟨_, fin rfl rfl hu5.blk, rfl, k0.since (hu5.kp [b6] (.inl sI)) (by simpa using n6)⟩
  | true =>
  rw [if_neg (by rw [hna, hnc]; simp)] at hren
  rw [hren]
  clear hren
  refine zS ?_
  refine Za ?_
  intro b8 w6 e8 hu6
  have k56 : Kp [] w5 w6 := hu6.new oM
  have g8 : Blk w6 b8 [.slice none 0 0] 24 := hu6.blk
  have l8 := g8.lt
  have n8 : w5.heap.size ≤ b8 := oM
  have l62 := g6.lt
  clear hu6
  refine zS ?_
  refine Jb4 (α := Nat × Option Addr × Nat) [1, 2, 3, 6, 8, 9] (fun y => [S a, S c, ptr b3, ptr b6, ptr b8, I y.1]) (fun y W => y.1 ≤ l.length ∧ Blk W b8 [.slice y.2.1 y.1 y.2.2] 24 ∧ OwnS W 81 4 y.2.1 y.1 y.2.2 (((l.take y.1).map (renN a c)).flatMap qC) ∧ Kp [] w5 W ∧ ∀ b, b ∈ Ja1 y.2.1 → b8 < b) (fun y => l.length - y.1) (0, none, 0) rfl ⟨Nat.zero_le _, g8, Jd6 _ _ _, k56, by simp [Ja1]⟩ ?_
  rintro ⟨i, iad, icap⟩ e W ⟨hi, g8, ho, kW, hnew⟩
  dsimp only at hi g8 ho hnew ⊢
  have g3 := kW.b0 g3
  have g6 := kW.b0 g6
  have y56 := k56.size
  refine zL g3 ?_
  refine r_if rfl (fun hc => ?_) (fun hc => ?_)
  ·obtain ⟨x, hx⟩ : ∃ x, l[i]? = some x := ⟨_, List.getElem?_eq_getElem oM⟩
   obtain ⟨b, off, rfl, hbl, hcell⟩ := (hR.kp (k0.trans kW) sI).cellN hx
   have ht1 : l.take (i + 1) = l.take i ++ [x] := by rw [List.take_add_one, hx]; rfl
   have lW := g8.lt
   refine zL g3 ?_
   refine Zm (vs := qC x) rfl (fun j v hv => by rw [Ja2]; exact hcell j v hv) ?_
   refine Za ?_
   intro b10 w7 e10 hu7
   refine Zs (b := b10) (cs := qC x) rfl hu7.blk lR rfl (by simp [Value.oneCell', qC]) ?_
   intro w8 hu8
   have k78 : Kp [] W w8 := (hu7.new oM).since (hu8.kp [b10] (.inl sI)) (by simp; omega)
   have g10 : Blk w8 b10 (qC x) 81 := hu8.blk
   have n10 : W.heap.size ≤ b10 := oM
   clear hu7 hu8
   repeat first | refine o_pure1 rfl rfl rfl ?_ | refine zn ?_
   refine Ja9 ?_
   refine Jd8 (α := Unit) [1, 2, 3, 6, 8, 9, 10] (fun _ => [S a, S c, ptr b3, ptr b6, ptr b8, I i, ptr b10]) (fun _ W' => Blk W' b10 (qC (renN a c x)) 81 ∧ Kp [] W W') ?_ ?_
   ·refine zL g10 ?_
    refine r_if rfl (fun he => ?_) (fun he => ?_)
    ·have he : x.name = a := he
     refine zS ?_
     refine Zt (b := b10) (off := 3) (v := S c) rfl g10 (by simp [qC]) ?_
     intro w9 hu9
     refine zS ?_
     exact ⟨(), rfl, by rw [show renN a c x = { x with name := c } from by unfold renN; rw [if_pos he]]; exact hu9.blk, k78.since (hu9.kp [b10] (.inl sI)) (by simpa using n10)⟩
    ·have he : ¬ x.name = a := he
     refine zS ?_
     exact ⟨(), rfl, by rw [show renN a c x = x from by unfold renN; rw [if_neg he]]; exact g10, k78⟩
   rintro ⟨⟩ e W2 ⟨g10, k2W⟩
   have g8 := k2W.b0 g8
   have ho := ho.kp k2W sI
   have kW := kW.trans k2W
   have y2W := k2W.size
   have hR2 := hR.kp (k0.trans kW) sI
   clear hcell
   refine zL g8 ?_
   refine Zm (vs := qC (renN a c x)) rfl g10.cs ?_
   refine Zn (qC (renN a c x)) rfl rfl rfl kR ?_
   intro bn w9 hbn hu9
   have k9 : Kp [] W2 w9 := hu9.new oM
   refine Jg7 (k := i) (m := 1) (qC (renN a c x)) rfl rfl (ho.kp k9 sI) (Ja7.blk hu9.blk) rfl rfl rfl dE rfl (fun v hv => Qm5 (l := [renN a c x]) v (by simpa using hv)) (by simp only [maxLen]; omega) oM rfl rfl ?_
   intro ad10 cap10 w10 ho10 k10 hn10
   have z8 : b8 ∉ Ja1 iad := fun h => by have := hnew b8 h; omega
   have g8 := k10.blk z8 (k9.b0 g8)
   have yk9 := k9.size
   have new10 : ∀ b, b ∈ Ja1 ad10 → b8 < b := fun b hb => by
    rcases hn10 b hb with h | h
    ·exact hnew b h
    ·have := g8.lt; omega
   have kk : Kp [] w5 w10 := (kW.trans k9).since k10 (fun b hb => by have := hnew b hb; omega)
   refine zS ?_
   refine Zt (b := b8) (off := 0) (v := .slice ad10 (i + 1) cap10) rfl g8 sI ?_
   intro w11 hu11
   have k11 : Kp [b8] w10 w11 := hu11.kp [b8] (.inl sI)
   refine zS ?_
   refine ⟨(i + 1, ad10, cap10), rfl, ⟨by dsimp only; omega, hu11.blk, ?_, kk.since k11 (by simpa using n8), new10⟩, by dsimp only; omega⟩
   dsimp only
   rw [ht1, List.map_append, List.flatMap_append]
   have := ho10.kp k11 (fun b hb h => by have := new10 b hb; simp at h; omega)
   simpa using this
  ·obtain rfl : i = l.length := oM
   rw [List.take_length] at ho
   refine zS ?_
   refine Zm (vs := [.slice iad l.length icap]) rfl g8.cs ?_
   refine Zs (b := b6) (cs := [.slice iad l.length icap]) rfl g6 lR rfl (by simp [Value.oneCell']) ?_
   intro w7 hu7
   have k7 : Kp [b6] W w7 := hu7.kp [b6] (.inl sI)
   have y0 := k0.size
   refine zS ?_
   refine ⟨_, fin rfl rfl hu7.blk, ⟨iad, icap, by rw [List.length_map]; rfl, ?_, fun b hb => by have := hnew b hb; omega⟩, (k0.trans kW).since k7 (by simpa using n6)⟩
   rw [List.length_map]
   exact ho.kp k7 (fun b hb h => by have := hnew b hb; simp at h; omega)
end
section
variable {w : World}
section
variable {g : OrG} {E : List Ev} {R : List Int}
end
end
end Go.Vc
namespace Go.Vc
inductive Pn (L : Nat → Nat → Prop) (j : Nat) : Nat → Nat → Prop
 | zero : Pn L j 0 j
 | succ {n k m : Nat} : L k m → Pn L j n m → Pn L j (n + 1) k
def Di (L : Nat → Nat → Prop) (j k n : Nat) : Prop := Pn L j n k ∧ ∀ m, m < n → ¬ Pn L j m k
inductive Qe7 (L : Nat → Nat → Prop) (j : Nat) : Nat → List Nat → Prop
 | done : Qe7 L j j [j]
 | step {k m n : Nat} {l : List Nat} : Di L j k (n + 1) → k < m → L k m → Di L j m n → (∀ m', k < m' → m' < m → ¬ (L k m' ∧ Di L j m' n)) → Qe7 L j m l → Qe7 L j k (k :: l)
section
variable {L : Nat → Nat → Prop} {j : Nat}
theorem Di.uniq {k n m : Nat} (h : Di L j k n) (g : Di L j k m) : n = m := by
 rcases Nat.lt_trichotomy n m with q | q | q
 ·exact absurd h.1 (g.2 n q)
 ·exact q
 ·exact absurd g.1 (h.2 m q)
theorem Pn.di {n k : Nat} (h : Pn L j n k) : ∃ m, m ≤ n ∧ Di L j k m := by
 induction n using Nat.strongRecOn generalizing k with
 | _ n ih =>
  by_cases q : ∃ m, m < n ∧ Pn L j m k
  ·obtain ⟨m, hm, hp⟩ := q
   obtain ⟨m', h1, h2⟩ := ih m hm hp
   exact ⟨m', oM, h2⟩
  ·exact ⟨n, lR, h, fun m hm hp => q ⟨m, hm, hp⟩⟩
theorem Di.next {k n : Nat} (h : Di L j k (n + 1)) : ∃ m, L k m ∧ Di L j m n := by
 obtain ⟨hp, hmin⟩ := h
 cases hp with
 | succ hl hm =>
  rename_i m
  exact ⟨m, hl, hm, fun m' hm' hp' => hmin (m' + 1) oM (.succ hl hp')⟩
theorem Ch.pn {k : Nat} (h : Ch L k j) : ∃ n, Pn L j (n + 1) k := by
 induction h with
 | one h => exact ⟨0, .succ h .zero⟩
 | more h _ ih => obtain ⟨n, hn⟩ := ih; exact ⟨n + 1, .succ h hn⟩
theorem Qe7.uniq {k : Nat} {l l' : List Nat} (h : Qe7 L j k l) (g : Qe7 L j k l') : l = l' := by
 induction h generalizing l' with
 | done =>
  cases g with
  | done => rfl
  | step h1 => exact absurd .zero (h1.2 0 oM)
 | step h1 h2 h3 h4 h5 h6 ih =>
  cases g with
  | done => exact absurd .zero (h1.2 0 oM)
  | step g1 g2 g3 g4 g5 g6 =>
   rename_i k m n l m' n' l'
   have e := h1.uniq g1
   have e : n = n' := oM
   subst e
   have em : m = m' := by
    rcases Nat.lt_trichotomy m m' with q | q | q
    ·exact absurd ⟨h3, h4⟩ (g5 m h2 q)
    ·exact q
    ·exact absurd ⟨g3, g4⟩ (h5 m' g2 q)
   subst em
   rw [ih g6]
variable (hL : ∀ a b, L a b → a < b)
include hL
theorem Pn.le {n k : Nat} (h : Pn L j n k) : k + n ≤ j := by
 induction h with
 | zero => omega
 | succ hl _ ih => have := hL _ _ hl; omega
omit hL in
end
structure Bf (L : Nat → Nat → Prop) (i j : Nat) (far : Nat → Option Nat) (proc todo : List Nat) : Prop where
 f1 : ∀ k n, far k = some n → Di L j k n ∧ i ≤ k ∧ k ≤ j
 f2 : far j = some 0
 mem : ∀ k, k ∈ proc ++ todo ↔ (far k).isSome = true
 nd : (proc ++ todo).Nodup
 closed : ∀ k ∈ proc, ∀ p, i ≤ p → L p k → (far p).isSome = true
 lev : todo.Pairwise fun a b => (far a).getD 0 ≤ (far b).getD 0
 span : ∀ h ∈ todo.head?, ∀ k ∈ todo, (far k).getD 0 ≤ (far h).getD 0 + 1
section
variable {L : Nat → Nat → Prop} {i j : Nat} {far : Nat → Option Nat} {proc todo : List Nat}
def upN (far : Nat → Option Nat) (k n : Nat) (x : Nat) : Option Nat := if x = k then some n else far x
theorem Bf.met {h : Nat} {r : List Nat} {d : Nat} (b : Bf L i j far proc (h :: r)) (hL : ∀ a b, L a b → a < b) (hd : far h = some d) : ∀ n, n ≤ d → ∀ k, i ≤ k → Di L j k n → (far k).isSome = true := by
 intro n
 induction n with
 | zero =>
  intro _ k _ hk
  have := hk.1
  cases this
  rw [b.f2]; rfl
 | succ n ih =>
  intro hn k hik hk
  obtain ⟨m, hl, hm⟩ := hk.next
  have hkm := hL _ _ hl
  have hmet := ih oM m oM hm
  obtain ⟨n', hn'⟩ := Option.isSome_iff_exists.1 hmet
  have e := (b.f1 m n' hn').1.uniq hm
  subst e
  have hin := (b.mem m).2 hmet
  rcases List.mem_append.1 hin with q | q
  ·exact b.closed m q k hik hl
  ·exfalso
   rcases List.mem_cons.1 q with e | q
   ·subst e; rw [hd] at hn'; cases hn'; omega
   ·have := (List.pairwise_cons.1 b.lev).1 m q
    rw [hd, hn'] at this
    simp at this; omega
theorem Bf.push {h : Nat} {r : List Nat} {d k : Nat} (b : Bf L i j far proc (h :: r)) (hL : ∀ a b, L a b → a < b) (hd : far h = some d) (hk : far k = none) (hik : i ≤ k) (hl : L k h) : Bf L i j (upN far k (d + 1)) proc (h :: (r ++ [k])) := by
 have hkn : k ∉ proc ++ (h :: r) := fun q => by have := (b.mem k).1 q; rw [hk] at this; cases this
 have hhj := (b.f1 h d hd).2.2
 have hkh := hL _ _ hl
 have hdi : Di L j k (d + 1) := ⟨.succ hl (b.f1 h d hd).1.1, fun m hm hp => by
  obtain ⟨m', h1, h2⟩ := hp.di
  have := b.met hL hd m' oM k hik h2
  rw [hk] at this; cases this⟩
 have old : ∀ x, x ∈ proc ++ (h :: r) → upN far k (d + 1) x = far x := fun x hx => by
  have hne : x ≠ k := fun e => hkn (by rw [← e]; exact hx)
  unfold upN; rw [if_neg hne]
 have oldr : ∀ x, x ∈ h :: r → upN far k (d + 1) x = far x := fun x hx => old x (List.mem_append_right _ hx)
 have e1 : upN far k (d + 1) k = some (d + 1) := by unfold upN; rw [if_pos rfl]
 have hk2 : k ≠ j := fun e => by subst e; rw [b.f2] at hk; cases hk
 refine ⟨fun x n hx => ?_, ?_, fun x => ?_, ?_, fun x hx p hp hlp => ?_, ?_, ?_⟩
 ·unfold upN at hx
  by_cases q : x = k
  ·subst q; rw [if_pos rfl] at hx; cases hx; exact ⟨hdi, hik, oM⟩
  ·rw [if_neg q] at hx; exact b.f1 x n hx
 ·unfold upN; rw [if_neg (fun e => hk2 e.symm)]; exact b.f2
 ·unfold upN
  have := b.mem x
  by_cases q : x = k
  ·subst q; simp
  ·rw [if_neg q, ← this]; simp [q]
 ·have e : proc ++ (h :: (r ++ [k])) = (proc ++ (h :: r)) ++ [k] := sI
  rw [e, List.nodup_append]
  exact ⟨b.nd, sI, fun x hx y hy => by simp at hy; subst hy; exact fun e => hkn (e ▸ hx)⟩
 ·have := b.closed x hx p hp hlp
  unfold upN
  split
  ·rfl
  ·exact this
 ·have e : h :: (r ++ [k]) = (h :: r) ++ [k] := sI
  rw [e, List.pairwise_append]
  refine ⟨?_, sI, fun x hx y hy => ?_⟩
  ·refine (List.Pairwise.imp_of_mem ?_ b.lev)
   intro x y hx hy hxy
   rw [oldr x hx, oldr y hy]; exact hxy
  ·simp at hy; subst hy
   rw [oldr x hx, e1]
   have := b.span h sI x hx
   rw [hd] at this
   simpa using this
 ·intro y hy x hx
  simp at hy; subst hy
  rw [oldr h sI, hd]
  have hx' : x ∈ h :: r ∨ x = k := by simpa [or_assoc] using hx
  rcases hx' with q | q
  ·rw [oldr x q]; have := b.span h sI x q; rw [hd] at this; exact this
  ·subst q; rw [e1]; simp
theorem Bf.whole (b : Bf L i j far proc []) (hL : ∀ a b, L a b → a < b) : ∀ n k, i ≤ k → Di L j k n → far k = some n := by
 intro n
 induction n with
 | zero => intro k _ hk; have := hk.1; cases this; exact b.f2
 | succ n ih =>
  intro k hik hk
  obtain ⟨m, hl, hm⟩ := hk.next
  have hkm := hL _ _ hl
  have hmet := ih m oM hm
  have hin := (b.mem m).2 (by rw [hmet]; rfl)
  rw [List.append_nil] at hin
  obtain ⟨n', hn'⟩ := Option.isSome_iff_exists.1 (b.closed m hin k hik hl)
  rw [hn', (b.f1 k n' hn').1.uniq hk]
end
end Go.Vc

namespace Go.Vc
open Go Go.Proofs
set_option maxRecDepth 20000
section
variable {w : World}
section
variable {g : OrG} {E : List Ev} {R : List Int}
theorem Bf.first {L : Nat → Nat → Prop} {i j : Nat} {far : Nat → Option Nat} {proc : List Nat} {h : Nat} {r : List Nat} (b : Bf L i j far proc (h :: r)) : ∃ d, far h = some d ∧ h ≤ j ∧ i ≤ h := by
 obtain ⟨d, hd⟩ := Option.isSome_iff_exists.1 ((b.mem h).1 sI)
 have := b.f1 h d hd
 exact ⟨d, hd, this.2.2, this.2.1⟩
theorem Bf.le {L : Nat → Nat → Prop} {i j : Nat} {far : Nat → Option Nat} {proc todo : List Nat} (b : Bf L i j far proc todo) (hL : ∀ a b, L a b → a < b) {k n : Nat} (h : far k = some n) : n ≤ j := by
 have := (b.f1 k n h).1.1.le hL
 omega
end
end
section
variable {w : World}
def accB (e : Ev) : Bool := decide (e.k = 1) || decide (e.k = 2)
noncomputable def raceI (E : List Ev) (R : List Int) (i j : Nat) : Bool :=
 (accB (evA E i) && (accB (evA E j) && (decide ((evA E i).o = (evA E j).o) && !decide ((evA E i).t = (evA E j).t)))) && ((decide ((evA E i).k = 2) || decide ((evA E j).k = 2)) && !befI E R i j)
section
variable {g : OrG} {E : List Ev} {R : List Int}
end
end
section
variable {w : World}
section
variable {g : OrG} {E : List Ev} {R : List Int}
theorem Ja7.heap {W : World} {ad : Option Addr} {xs : List Value} (h : Ja7 w ad xs) (hp : ∀ b, b ∈ Ja1 ad → W.heap[b]? = w.heap[b]?) : Ja7 W ad xs := by
 cases ad with
 | none => exact h
 | some ad =>
  intro i v hv
  obtain ⟨b, off, he, hb, hc⟩ := h.at_ (by have := (List.getElem?_eq_some_iff.1 hv).1; omega)
  simp only [Option.some.injEq] at he
  subst he
  rw [Jc1, ← hc i v hv]
  exact World.cell?_of_block (hp _ (by simp [Ja1]))
theorem OrAt.heap {W : World} (h : OrAt w g E R) (hp : ∀ b, b ∈ g.F → W.heap[b]? = w.heap[b]?) : OrAt W g E R := by
 have hb : ∀ {b : Nat} {l : List Value} {T : TypeId}, b ∈ g.F → Blk w b l T → Blk W b l T := fun hm hB => by unfold Blk; rw [hp _ hm]; exact hB
 have m1 : g.p ∈ g.F := by simp [OrG.F]
 have m2 : ∀ b, b ∈ Ja1 g.ead → b ∈ g.F := fun b hb => by simp [OrG.F, hb]
 have m3 : ∀ b, b ∈ Ja1 g.rad → b ∈ g.F := fun b hb => by simp [OrG.F, hb]
 have m4 : ∀ b, b ∈ Jd3 g.rp g.mad g.bs → b ∈ g.F := fun b hb => by simp [OrG.F, hb]
 refine ⟨⟨hb m1 h.hdr, h.ev.heap (fun b hb => hp b (m2 b hb)), h.ro.heap (fun b hb => hp b (m3 b hb)), h.lr, h.small⟩, ?_, h.bits, fun b hb => ?_⟩
 rotate_left
 ·have q := hp b hb
  rw [Array.getElem?_eq_getElem (h.fl b hb)] at q
  exact (Array.getElem?_eq_some_iff.1 q).1
 exact ⟨hb (m4 _ (by simp [Jd3])) h.rel.hdr, h.rel.own.keep (fun b hb => hp b (m4 _ (by simp [Jd3, hb]))), h.rel.nb, h.rel.nM, h.rel.small, fun i b ws h1 h2 => ⟨hb (m4 _ (by simp [Jd3, List.mem_of_getElem? h1])) (h.rel.row i b ws h1 h2).1, (h.rel.row i b ws h1 h2).2⟩, h.rel.nodup⟩
end
end
section
variable {w : World}
def AbsO (w : World) (p : Option Addr) : Prop := p = none ∨ ∃ b, p = some ⟨b, 0, none⟩ ∧ Blk w b [.slice none 0 0, .slice none 0 0, .pointer none] 186
theorem AbsO.kp0 {w' : World} {p : Option Addr} (h : AbsO w p) (hk : Kp [] w w') : AbsO w' p := by
 rcases h with h | ⟨b, h1, h2⟩
 ·exact .inl h
 ·exact .inr ⟨b, h1, hk.b0 h2⟩
theorem AbsO.heap {W : World} {p : Option Addr} (h : AbsO w p) (hp : ∀ b, b ∈ Ja1 p → W.heap[b]? = w.heap[b]?) : AbsO W p := by
 rcases h with h | ⟨b, h1, h2⟩
 ·exact .inl h
 ·exact .inr ⟨b, h1, by unfold Blk; rw [hp b (by rw [h1]; simp [Ja1])]; exact h2⟩
section
variable {p : Option Addr}
theorem AbsO.lt (h : AbsO w p) : ∀ b, b ∈ Ja1 p → b < w.heap.size := fun b hb => by
 rcases h with rfl | ⟨b', rfl, hB⟩
 ·simp [Ja1] at hb
 ·simp [Ja1] at hb; subst hb; exact hB.lt
end
def OX (w : World) (p : Option Addr) (F : List Nat) (E : List Ev) (R : List Int) : Prop := (AbsO w p ∧ F = Ja1 p ∧ E = [] ∧ R = []) ∨ ∃ g, p = some ⟨g.p, 0, none⟩ ∧ F = g.F ∧ OrAt w g E R
section
variable {p : Option Addr} {F : List Nat} {E : List Ev} {R : List Int}
theorem OX.kp0 {w' : World} (h : OX w p F E R) (hk : Kp [] w w') : OX w' p F E R := by
 rcases h with ⟨h1, h2⟩ | ⟨g, h1, h2, h3⟩
 ·exact .inl ⟨h1.kp0 hk, h2⟩
 ·exact .inr ⟨g, h1, h2, h3.kp0 hk⟩
theorem OX.lt (h : OX w p F E R) : ∀ b, b ∈ F → b < w.heap.size := by
 rcases h with ⟨h1, rfl, _⟩ | ⟨g, h1, rfl, h3⟩
 ·exact h1.lt
 ·exact h3.fl
theorem OX.small (h : OX w p F E R) : E.length ≤ 2048 := by
 rcases h with ⟨_, _, rfl, _⟩ | ⟨g, _, _, h3⟩
 ·simp
 ·exact h3.small
end
end
end Go.Vc
namespace Go.Vc
open Go
variable {P : Program} {n : Nat} {w : World}
section
variable {e : Env} {KM : MPost} {XM : List (Nat × MPost)} {RM : MPost} {ds : List Nat}
end
end Go.Vc

namespace Go.Vc
open Go Go.Proofs
set_option maxRecDepth 20000
section
variable {w : World}
section
variable {p : Option Addr} {F : List Nat} {E : List Ev} {R : List Int}
end
end
section
variable {w : World}
section
variable {g : OrG} {E : List Ev} {R : List Int}
theorem OrAt.lt (h : OrAt w g E R) : ∀ b, b ∈ g.F → b < w.heap.size := h.fl
end
def sO : Shp := ⟨2, 1, 0, 1, []⟩
def evO1 : List Ev := [⟨7, 0, 1⟩, ⟨2, 0, 0⟩, ⟨1, 1, 0⟩]
def evO2 : List Ev := [⟨7, 0, 1⟩, ⟨5, 0, 0⟩, ⟨2, 0, 0⟩, ⟨6, 0, 0⟩, ⟨5, 1, 0⟩, ⟨1, 1, 0⟩]
def R1 : List Int := rnds sO evO1 3
def R2 : List Int := rnds sO evO2 6
theorem bef_next {E : List Ev} {R : List Int} {i : Nat} (h : befI E R i (i + 1 : Nat) = true) : lk E R i (i + 1) := by
 have h := Qc9.1 h
 cases h with
 | one h => exact h
 | more h1 h2 => have := lk_lt h1; have := ch_lt h2; omega
theorem b12 : befI evO1 R1 (1 : Nat) (2 : Nat) = false := by
 rw [Bool.eq_false_iff]
 intro h
 exact absurd (bef_next h) dE
theorem b25 : befI evO2 R2 (2 : Nat) (5 : Nat) = true := by
 rw [Qc9]
 exact .more (k := 3) dE (.more (k := 4) dE (.one dE))
end
section
variable {w : World}
structure RrG where
 p : Nat
 ead : Option Addr
 ecap : Nat
 rad : Option Addr
 rcap : Nat
 bv : Value
structure RrB (w : World) (g : RrG) (E : List Ev) (R : List Int) : Prop where
 hdr : Blk w g.p [.slice g.ead E.length g.ecap, .slice g.rad R.length g.rcap, g.bv] 128
 ev : Ja7 w g.ead (evsC E)
 ro : Ja7 w g.rad (R.map I)
 lr : R.length = E.length
 small : E.length ≤ 2048
theorem RrB.kp {w' : World} {S : List Nat} {g : RrG} {E : List Ev} {R : List Int} (h : RrB w g E R) (hk : Kp S w w') (hS : ∀ b, b ∈ g.p :: (Ja1 g.ead ++ Ja1 g.rad) → b ∉ S) : RrB w' g E R :=
 ⟨hk.blk (hS _ sI) h.hdr, h.ev.kp hk (fun b hb => hS b (by simp [hb])), h.ro.kp hk (fun b hb => hS b (by simp [hb])), h.lr, h.small⟩
theorem RrB.kp0 {w' : World} {g : RrG} {E : List Ev} {R : List Int} (h : RrB w g E R) (hk : Kp [] w w') : RrB w' g E R := h.kp hk sI
theorem RrB.sm {w' : World} {g : RrG} {E : List Ev} {R : List Int} (h : RrB w g E R) (hk : Sm w w') : RrB w' g E R := h.kp0 (hk.kp [])
def Ju7 (a b : Ev) (x y : Int) : Int :=
 if a.t = b.t then 1
 else if (a.k = 6 ∧ b.k = 5) ∧ a.o = b.o then 2
 else if (a.k = 4 ∧ b.k = 3) ∧ a.o = b.o then 3
 else if a.k = 7 ∧ a.o = b.t then 4
 else if b.k = 8 ∧ b.o = a.t then 5
 else if ((a.k = 9 ∧ b.k = 10) ∧ a.o = b.o) ∧ x = y then 6
 else 0
theorem whyEv2_eq (a b : Ev) (x y : Int) : Ju7 a b x y = Qi3 a b x y := by
 unfold Qi3 Ju7
 repeat' split
 all_goals first | rfl | (exfalso; omega)
section
variable {g : RrG} {E : List Ev} {R : List Int}
theorem RrB.evat (h : RrB w g E R) {i : Int} (h0 : 0 ≤ i) (h1 : i < E.length) : ∃ b off, g.ead = some ⟨b, off, none⟩ ∧ ∀ w', Kp [] w w' → ∀ j v, (evC (evA E i.toNat))[j]? = some v → w'.cell? ⟨b, off + i.toNat * 3 + j, none⟩ = some v := by
 obtain ⟨b, off, he, hb, hcell⟩ := h.ev.at_ (by rw [Jt5]; omega)
 refine ⟨b, off, he, fun w' hk j v hv => ?_⟩
 have hx : E[i.toNat]? = some (evA E i.toNat) := by unfold evA; rw [List.getElem?_eq_getElem oM]; rfl
 rw [Nat.add_assoc, ← hcell _ _ (Jq0 hx j v hv)]
 exact World.cell?_of_block (hk.at_ b hb sI)
theorem RrB.roat (h : RrB w g E R) {i : Int} (h0 : 0 ≤ i) (h1 : i < E.length) : ∃ b off, g.rad = some ⟨b, off, none⟩ ∧ ∀ w', Kp [] w w' → w'.cell? ⟨b, off + i.toNat, none⟩ = some (I (roA R i.toNat)) := by
 have := h.lr
 obtain ⟨b, off, he, hb, hcell⟩ := h.ro.at_ (by simp; omega)
 refine ⟨b, off, he, fun w' hk => ?_⟩
 rw [← hcell i.toNat (I (roA R i.toNat)) (by rw [List.getElem?_map]; unfold roA; rw [List.getElem?_eq_getElem oM]; rfl)]
 exact World.cell?_of_block (hk.at_ b hb sI)
theorem Jw6 (h : RrB w g E R) : Ret Tryz.prog 57 [ptr g.p] w (fun v w' => v = I E.length ∧ w' = w) := by
 refine Ze Tryz.call57 Tryz.func57 ?_
 refine zS ?_
 refine Zl rfl h.hdr ?_
 refine zS ?_
 exact ⟨_, rfl, rfl, rfl⟩
theorem Qa1 (h : RrB w g E R) (i : Int) : Ret Tryz.prog 102 [ptr g.p, I i] w (fun v w' => v = .bool (decide (0 ≤ i ∧ i < E.length)) ∧ w' = w) := by
 refine Ze Tryz.call102 Tryz.func102 ?_
 refine zS ?_
 by_cases h0 : 0 ≤ i
 ·refine o_is true 2 true rfl rfl rfl (decide_eq_true h0) ?_
  refine zS ?_
  refine Zc (Jw6 h) ?_
  rintro v w1 ⟨rfl, rfl⟩
  refine zS ?_
  exact ⟨_, rfl, by simp [h0], rfl⟩
 ·refine o_is false 2 true rfl rfl rfl (decide_eq_false h0) ?_
  refine zS ?_
  exact ⟨_, rfl, by simp [h0], rfl⟩
theorem rWhy_ret (h : RrB w g E R) (i j : Int) : Ret Tryz.prog 101 [ptr g.p, I i, I j] w (fun v w' => v = I (whyI E R i j) ∧ Kp [] w w') := by
 have hsm := h.small
 refine Ze Tryz.call101 Tryz.func101 ?_
 refine zS ?_
 refine Zc (Qa1 h i) ?_
 rintro v w1 ⟨rfl, rfl⟩
 refine zS ?_
 by_cases hi : 0 ≤ i ∧ i < E.length
 rotate_left
 ·refine o_is true 4 false rfl rfl rfl (by rw [decide_eq_false hi]; rfl) ?_
  refine zS ?_
  exact ⟨_, rfl, by rw [Jt4 oM], Kp.refl _ _⟩
 refine o_is false 4 false rfl rfl rfl (by rw [decide_eq_true hi]; rfl) ?_
 refine zS ?_
 refine Zc (Qa1 h j) ?_
 rintro v w1 ⟨rfl, rfl⟩
 refine zS ?_
 by_cases hj : 0 ≤ j ∧ j < E.length
 rotate_left
 ·refine o_is true 10 false rfl rfl rfl (by rw [decide_eq_false hj]; rfl) ?_
  refine zS ?_
  exact ⟨_, rfl, by rw [Jt4 oM], Kp.refl _ _⟩
 refine o_is false 10 false rfl rfl rfl (by rw [decide_eq_true hj]; rfl) ?_
 refine zS ?_
 refine r_if rfl (fun hij => ?_) (fun hij => ?_)
 ·refine zS ?_
  exact ⟨_, rfl, by rw [Jt4 oM], Kp.refl _ _⟩
 have hres : whyI E R i j = Ju7 (evA E i.toNat) (evA E j.toNat) (roA R i.toNat) (roA R j.toNat) := by rw [whyEv2_eq]; exact whyI_in ⟨hi.1, oM, hj.2⟩
 rw [hres]
 obtain ⟨eb, eo, hea, hei⟩ := h.evat hi.1 hi.2
 obtain ⟨eb2, eo2, hea2, hej⟩ := h.evat hj.1 hj.2
 obtain ⟨rb, ro, hra, hri⟩ := h.roat hi.1 hi.2
 obtain ⟨rb2, ro2, hra2, hrj⟩ := h.roat hj.1 hj.2
 generalize evA E i.toNat = a at hei ⊢
 generalize evA E j.toNat = b at hej ⊢
 generalize roA R i.toNat = x at hri ⊢
 generalize roA R j.toNat = y at hrj ⊢
 rw [hra] at hra2
 cases hra2
 rw [hea] at hea2
 cases hea2
 have hh := h.hdr
 rw [hra, hea] at hh
 refine zS ?_
 refine Zl (v := .slice (some ⟨eb, eo, none⟩) E.length g.ecap) rfl hh ?_
 refine zS ?_
 refine Zm (b := eb) (off := eo + i.toNat * 3) (vs := evC a) rfl (hei _ (Kp.refl _ _)) ?_
 refine zS ?_
 refine Za ?_
 intro ba w2 hba hu2
 refine Zs (cs := evC a) rfl hu2.blk lR rfl (by simp [Value.oneCell']) ?_
 intro w3 hu3
 have k3 : Kp [] w1 w3 := (hu2.new oM).since (hu3.kp [ba] (.inl sI)) (by simp; omega)
 have hA3 : Blk w3 ba (evC a) 86 := hu3.blk
 refine zS ?_
 refine Zl (v := .slice (some ⟨eb, eo, none⟩) E.length g.ecap) rfl (k3.b0 hh) ?_
 refine zS ?_
 refine Zm (b := eb) (off := eo + j.toNat * 3) (vs := evC b) rfl (hej _ k3) ?_
 refine zS ?_
 refine Za ?_
 intro bb w4 hbb hu4
 refine Zs (cs := evC b) rfl hu4.blk lR rfl (by simp [Value.oneCell']) ?_
 intro w6 hu6
 have k6 : Kp [] w3 w6 := (hu4.new oM).since (hu6.kp [bb] (.inl sI)) (by simp; omega)
 have hB : Blk w6 bb (evC b) 86 := hu6.blk
 have hA := k6.b0 hA3
 have kk : Kp [] w1 w6 := k3.trans k6
 have hh6 := kk.b0 hh
 refine zS ?_
 refine Zl (b := ba) (off := 1) (v := I a.t) rfl hA ?_
 refine zS ?_
 refine Zl (b := bb) (off := 1) (v := I b.t) rfl hB ?_
 refine zS ?_
 refine r_if rfl (fun c1 => ?_) (fun c1 => ?_)
 ·refine zS ?_
  exact ⟨_, rfl, by unfold Ju7; rw [if_pos c1], kk⟩
 refine zS ?_
 refine Jn9 [0, 1, 2, 7, 8] [ptr g.p, I i, I j, ptr ba, ptr bb] 44 (decide ((a.k = 6 ∧ b.k = 5) ∧ a.o = b.o)) (fun w' => w' = w6) ?_ ?_
 ·refine Zl (b := ba) (off := 0) (v := I a.k) rfl hA ?_
  refine zO ?_
  by_cases q0 : a.k = 6
  rotate_left
  ·refine o_is false 3 true rfl rfl rfl (by simp [q0]) ?_
   refine zO ?_
   exact ⟨rfl, ⟨_, rfl, by simp [q0]⟩, rfl⟩
  refine o_is true 3 true rfl rfl rfl (by simp [q0]) ?_
  refine zO ?_
  refine Zl (b := bb) (off := 0) (v := I b.k) rfl hB ?_
  refine zO ?_
  by_cases q1 : b.k = 5
  rotate_left
  ·refine o_is false 8 true rfl rfl rfl (by simp [q0, q1]) ?_
   refine zO ?_
   exact ⟨rfl, ⟨_, rfl, by simp [q0, q1]⟩, rfl⟩
  refine o_is true 8 true rfl rfl rfl (by simp [q0, q1]) ?_
  refine zO ?_
  refine Zl (b := ba) (off := 2) (v := I a.o) rfl hA ?_
  refine zO ?_
  refine Zl (b := bb) (off := 2) (v := I b.o) rfl hB ?_
  refine zO ?_
  exact ⟨rfl, ⟨_, rfl, by simp [q0, q1]⟩, rfl⟩
 rintro e w7 rfl
 refine zS ?_
 refine r_if rfl (fun c2 => ?_) (fun c2 => ?_)
 ·refine zS ?_
  exact ⟨_, rfl, by unfold Ju7; rw [if_neg c1, if_pos c2], kk⟩
 refine zS ?_
 refine Jn9 [0, 1, 2, 7, 8] [ptr g.p, I i, I j, ptr ba, ptr bb] 60 (decide ((a.k = 4 ∧ b.k = 3) ∧ a.o = b.o)) (fun w' => w' = w7) ?_ ?_
 ·refine Zl (b := ba) (off := 0) (v := I a.k) rfl hA ?_
  refine zO ?_
  by_cases q0 : a.k = 4
  rotate_left
  ·refine o_is false 3 true rfl rfl rfl (by simp [q0]) ?_
   refine zO ?_
   exact ⟨rfl, ⟨_, rfl, by simp [q0]⟩, rfl⟩
  refine o_is true 3 true rfl rfl rfl (by simp [q0]) ?_
  refine zO ?_
  refine Zl (b := bb) (off := 0) (v := I b.k) rfl hB ?_
  refine zO ?_
  by_cases q1 : b.k = 3
  rotate_left
  ·refine o_is false 8 true rfl rfl rfl (by simp [q0, q1]) ?_
   refine zO ?_
   exact ⟨rfl, ⟨_, rfl, by simp [q0, q1]⟩, rfl⟩
  refine o_is true 8 true rfl rfl rfl (by simp [q0, q1]) ?_
  refine zO ?_
  refine Zl (b := ba) (off := 2) (v := I a.o) rfl hA ?_
  refine zO ?_
  refine Zl (b := bb) (off := 2) (v := I b.o) rfl hB ?_
  refine zO ?_
  exact ⟨rfl, ⟨_, rfl, by simp [q0, q1]⟩, rfl⟩
 rintro e w7 rfl
 refine zS ?_
 refine r_if rfl (fun c3 => ?_) (fun c3 => ?_)
 ·refine zS ?_
  exact ⟨_, rfl, by unfold Ju7; rw [if_neg c1, if_neg c2, if_pos c3], kk⟩
 refine zS ?_
 refine Jn9 [0, 1, 2, 7, 8] [ptr g.p, I i, I j, ptr ba, ptr bb] 76 (decide (a.k = 7 ∧ a.o = b.t)) (fun w' => w' = w7) ?_ ?_
 ·refine Zl (b := ba) (off := 0) (v := I a.k) rfl hA ?_
  refine zO ?_
  by_cases q0 : a.k = 7
  rotate_left
  ·refine o_is false 3 true rfl rfl rfl (by simp [q0]) ?_
   refine zO ?_
   exact ⟨rfl, ⟨_, rfl, by simp [q0]⟩, rfl⟩
  refine o_is true 3 true rfl rfl rfl (by simp [q0]) ?_
  refine zO ?_
  refine Zl (b := ba) (off := 2) (v := I a.o) rfl hA ?_
  refine zO ?_
  refine Zl (b := bb) (off := 1) (v := I b.t) rfl hB ?_
  refine zO ?_
  exact ⟨rfl, ⟨_, rfl, by simp [q0]⟩, rfl⟩
 rintro e w7 rfl
 refine zS ?_
 refine r_if rfl (fun c4 => ?_) (fun c4 => ?_)
 ·refine zS ?_
  exact ⟨_, rfl, by unfold Ju7; rw [if_neg c1, if_neg c2, if_neg c3, if_pos c4], kk⟩
 refine zS ?_
 refine Jn9 [0, 1, 2, 7, 8] [ptr g.p, I i, I j, ptr ba, ptr bb] 87 (decide (b.k = 8 ∧ b.o = a.t)) (fun w' => w' = w7) ?_ ?_
 ·refine Zl (b := bb) (off := 0) (v := I b.k) rfl hB ?_
  refine zO ?_
  by_cases q0 : b.k = 8
  rotate_left
  ·refine o_is false 3 true rfl rfl rfl (by simp [q0]) ?_
   refine zO ?_
   exact ⟨rfl, ⟨_, rfl, by simp [q0]⟩, rfl⟩
  refine o_is true 3 true rfl rfl rfl (by simp [q0]) ?_
  refine zO ?_
  refine Zl (b := bb) (off := 2) (v := I b.o) rfl hB ?_
  refine zO ?_
  refine Zl (b := ba) (off := 1) (v := I a.t) rfl hA ?_
  refine zO ?_
  exact ⟨rfl, ⟨_, rfl, by simp [q0]⟩, rfl⟩
 rintro e w7 rfl
 refine zS ?_
 refine r_if rfl (fun c5 => ?_) (fun c5 => ?_)
 ·refine zS ?_
  exact ⟨_, rfl, by unfold Ju7; rw [if_neg c1, if_neg c2, if_neg c3, if_neg c4, if_pos c5], kk⟩
 refine zS ?_
 have hfin : Ju7 a b x y = if ((a.k = 9 ∧ b.k = 10) ∧ a.o = b.o) ∧ x = y then 6 else 0 := by
  unfold Ju7; rw [if_neg c1, if_neg c2, if_neg c3, if_neg c4, if_neg c5]
 rw [hfin]
 refine Ja9 ?_
 refine Jd8 (α := Unit) [0, 98] (fun _ => [ptr g.p, .bool (decide (((a.k = 9 ∧ b.k = 10) ∧ a.o = b.o) ∧ x = y))]) (fun _ w' => Kp [] w1 w') ?_ ?_
 ·refine Jd1 Ja0 kR ?_
  refine zQ ?_
  refine Zq (b := ba) (off := 0) (v := I a.k) rfl (fun w hs => (hs.blk hA).cell rfl) ?_
  refine zQ ?_
  by_cases q0 : a.k = 9
  rotate_left
  ·refine q_is false 3 true rfl rfl rfl (by simp [q0]) ?_
   refine zQ ?_
   intro w8 hs8
   exact ⟨(), by rw [show decide (((a.k = 9 ∧ b.k = 10) ∧ a.o = b.o) ∧ x = y) = false by simp [q0]]; rfl, kk.trans (hs8.kp [])⟩
  refine q_is true 3 true rfl rfl rfl (by simp [q0]) ?_
  refine zQ ?_
  refine Zq (b := bb) (off := 0) (v := I b.k) rfl (fun w hs => (hs.blk hB).cell rfl) ?_
  refine zQ ?_
  by_cases q1 : b.k = 10
  rotate_left
  ·refine q_is false 8 true rfl rfl rfl (by simp [q1]) ?_
   refine zQ ?_
   intro w8 hs8
   exact ⟨(), by rw [show decide (((a.k = 9 ∧ b.k = 10) ∧ a.o = b.o) ∧ x = y) = false by simp [q1]]; rfl, kk.trans (hs8.kp [])⟩
  refine q_is true 8 true rfl rfl rfl (by simp [q1]) ?_
  refine zQ ?_
  refine Zq (b := ba) (off := 2) (v := I a.o) rfl (fun w hs => (hs.blk hA).cell rfl) ?_
  refine zQ ?_
  refine Zq (b := bb) (off := 2) (v := I b.o) rfl (fun w hs => (hs.blk hB).cell rfl) ?_
  refine zQ ?_
  by_cases q2 : a.o = b.o
  rotate_left
  ·refine q_is false 15 true rfl rfl rfl (by simp [q2]) ?_
   refine zQ ?_
   intro w8 hs8
   exact ⟨(), by rw [show decide (((a.k = 9 ∧ b.k = 10) ∧ a.o = b.o) ∧ x = y) = false by simp [q2]]; rfl, kk.trans (hs8.kp [])⟩
  refine q_is true 15 true rfl rfl rfl (by simp [q2]) ?_
  have hlr := h.lr
  refine zQ ?_
  refine Zq (v := .slice (some ⟨rb, ro, none⟩) R.length g.rcap) rfl (fun w hs => (hs.blk hh6).cell rfl) ?_
  refine zQ ?_
  refine Zq (b := rb) (off := ro + i.toNat) (v := I x) rfl (fun w hs => hri w (kk.trans (hs.kp []))) ?_
  refine zQ ?_
  refine Zq (v := .slice (some ⟨rb, ro, none⟩) R.length g.rcap) rfl (fun w hs => (hs.blk hh6).cell rfl) ?_
  refine zQ ?_
  refine Zq (b := rb) (off := ro + j.toNat) (v := I y) rfl (fun w hs => hrj w (kk.trans (hs.kp []))) ?_
  refine zQ ?_
  intro w8 hs8
  exact ⟨(), by rw [show decide (((a.k = 9 ∧ b.k = 10) ∧ a.o = b.o) ∧ x = y) = decide (x = y) by simp [q0, q1, q2]]; rfl, kk.trans (hs8.kp [])⟩
 rintro _ e w9 k9
 refine zS ?_
 refine r_if rfl (fun c6 => ?_) (fun c6 => ?_)
 ·refine zS ?_
  exact ⟨_, rfl, by rw [if_pos c6], k9⟩
 ·refine zS ?_
  exact ⟨_, rfl, by rw [if_neg c6], k9⟩
end
end
end Go.Vc
