/- Parts of a proof. -/
import Derived.Test.YtkgngbpkiklckaaGreatDoorQClQExact36
set_option maxHeartbeats 12800000
namespace Go.Vc
open Go Go.Proofs
set_option maxRecDepth 20000
section
variable {w : World}
def Val (L : Nat → Nat → Prop) (j k : Nat) (x : Int) : Prop := (∃ n, Di L j k n ∧ x = (n : Int)) ∨ ((∀ n, ¬ Di L j k n) ∧ x = 1073741824)
def Part (L : Nat → Nat → Prop) (j k x : Nat) (y : Int) : Prop := (∀ m n, m < x → L k m → Di L j m n → y ≤ (n : Int) + 1) ∧ (y = 1073741824 ∨ ∃ m n, m < x ∧ L k m ∧ Di L j m n ∧ y = (n : Int) + 1)
section
variable {L : Nat → Nat → Prop} {j : Nat}
theorem Part.val {k : Nat} {y : Int} (h : Part L j k (j + 1) y) (hL : ∀ a b, L a b → a < b) (hk : k < j) (hj : j ≤ 4096) : Val L j k y := by
 have hle : ∀ {a n : Nat}, Di L j a n → a + n ≤ j := fun h => h.1.le hL
 have hbelow : ∀ d, Di L j k d → ∃ d' m, d = d' + 1 ∧ L k m ∧ Di L j m d' := fun d hd => by
  cases d with
  | zero => have := hd.1; cases this; omega
  | succ d' => obtain ⟨m, h1, h2⟩ := hd.next; exact ⟨d', m, rfl, h1, h2⟩
 rcases h.2 with hy | ⟨m, n, h1, h2, h3, h4⟩
 ·refine .inr ⟨fun d hd => ?_, hy⟩
  obtain ⟨d', m, rfl, hm1, hm2⟩ := hbelow d hd
  have q := hle hm2
  have := h.1 m d' oM hm1 hm2
  omega
 ·refine .inl ⟨n + 1, ⟨.succ h2 h3.1, fun d hd hp => ?_⟩, oM⟩
  obtain ⟨d2, hd2, hdi⟩ := hp.di
  obtain ⟨d', m', rfl, hm1, hm2⟩ := hbelow d2 hdi
  have q := hle hm2
  have := h.1 m' d' oM hm1 hm2
  omega
theorem Part.skip {k x : Nat} {y : Int} (h : Part L j k x y) (hn : ∀ n, L k x → Di L j x n → y ≤ (n : Int) + 1) : Part L j k (x + 1) y := by
 refine ⟨fun m n h1 h2 h3 => ?_, ?_⟩
 ·by_cases q : m = x
  ·subst q; exact hn n h2 h3
  ·exact h.1 m n oM h2 h3
 ·rcases h.2 with hy | ⟨m, n, h1, h2, h3, h4⟩
  ·exact .inl hy
  ·exact .inr ⟨m, n, oM, h2, h3, h4⟩
theorem Part.take {k x n : Nat} {y : Int} (h : Part L j k x y) (hl : L k x) (hd : Di L j x n) (hlt : (n : Int) + 1 < y) : Part L j k (x + 1) ((n : Int) + 1) := by
 refine ⟨fun m n' h1 h2 h3 => ?_, .inr ⟨x, n, oM, hl, hd, rfl⟩⟩
 by_cases q : m = x
 ·subst q; have := hd.uniq h3; omega
 ·have := h.1 m n' oM h2 h3; omega
end
section
variable {g : RrG} {E : List Ev} {R : List Int}
end
end
section
variable {w : World}
def OaV (w : World) (v : Value) (E : List Ev) (R : List Int) : Prop := (v = .pointer none ∧ E = [] ∧ R = []) ∨ ∃ g, v = ptr g.p ∧ OrAt w g E R
def RaV (w : World) (v : Value) (E : List Ev) (R : List Int) : Prop := (v = .pointer none ∧ E = [] ∧ R = []) ∨ ∃ g, v = ptr g.p ∧ RrAt w g E R
theorem OaV.kp0 {w' : World} {v : Value} {E : List Ev} {R : List Int} (h : OaV w v E R) (hk : Kp [] w w') : OaV w' v E R := by
 rcases h with h | ⟨g, h1, h2⟩
 ·exact .inl h
 ·exact .inr ⟨g, h1, h2.kp0 hk⟩
theorem RaV.kp0 {w' : World} {v : Value} {E : List Ev} {R : List Int} (h : RaV w v E R) (hk : Kp [] w w') : RaV w' v E R := by
 rcases h with h | ⟨g, h1, h2⟩
 ·exact .inl h
 ·exact .inr ⟨g, h1, h2.kp0 hk⟩
def ChainV (E : List Ev) (R : List Int) (i j : Int) (l : List Nat) : Prop := (befI E R i j = false ∧ l = []) ∨ (befI E R i j = true ∧ Qe7 (lk E R) j.toNat i.toNat l)
theorem ChainV.uniq {E : List Ev} {R : List Int} {i j : Int} {l l' : List Nat} (h : ChainV E R i j l) (g : ChainV E R i j l') : l = l' := by
 rcases h with ⟨h1, rfl⟩ | ⟨h1, h2⟩
 ·rcases g with ⟨_, rfl⟩ | ⟨g1, _⟩
  ·rfl
  ·rw [h1] at g1; cases g1
 ·rcases g with ⟨g1, _⟩ | ⟨_, g2⟩
  ·rw [h1] at g1; cases g1
  ·exact h2.uniq g2
section
variable {v0 : Value} {E : List Ev} {R : List Int}
end
end
section
variable {w : World}
structure AccI (w W : World) (B0 b5 : Nat) (ST T : TypeId) (sz : Nat) (n : Nat) (xs : List Value) : Prop where
 hdr : ∃ ad cap, Blk W b5 [.slice ad n cap] ST ∧ OwnS W T sz ad n cap xs ∧ ∀ b, b ∈ Ja1 ad → B0 ≤ b
 fresh : w.heap.size ≤ b5
 lt : b5 < B0
 kp : Kp [] w W
section
variable {W W' : World} {B0 b5 n sz : Nat} {ST T : TypeId} {xs : List Value}
theorem AccI.kp0 (h : AccI w W B0 b5 ST T sz n xs) (hk : Kp [] W W') : AccI w W' B0 b5 ST T sz n xs := by
 obtain ⟨ad, cap, h1, h2, h3⟩ := h.hdr
 exact ⟨⟨ad, cap, hk.b0 h1, h2.kp hk sI, h3⟩, h.fresh, h.lt, h.kp.trans hk⟩
theorem AccI.push {W1 W2 W3 : World} {ad ad' : Option Addr} {cap cap' m : Nat} {ys : List Value} (h : AccI w W B0 b5 ST T sz n xs) (hB : Blk W b5 [.slice ad n cap] ST) (hB0 : B0 ≤ W.heap.size) (k1 : Kp [] W W1) (ho : OwnS W2 T sz ad' m cap' ys) (k2 : Kp (Ja1 ad) W1 W2) (hn : ∀ b, b ∈ Ja1 ad' → b ∈ Ja1 ad ∨ W1.heap.size ≤ b)
  (hu : Upd W2 b5 (.cells ⟨[.slice ad' m cap']⟩ ST (0, 0)) W3) : AccI w W3 B0 b5 ST T sz m ys ∧ Kp (b5 :: Ja1 ad) W W3 := by
 obtain ⟨ad0, cap0, h1, h2, h3⟩ := h.hdr
 have e1 : Value.slice ad n cap = Value.slice ad0 n cap0 := by
  have := h1.symm.trans hB
  simp at this
  simp [this.1, this.2]
 simp only [Value.slice.injEq] at e1
 obtain ⟨rfl, -, rfl⟩ := e1
 have hlt := h.lt
 have s1 := k1.size
 have hn' : ∀ b, b ∈ Ja1 ad' → B0 ≤ b := fun b hb => by
  rcases hn b hb with q | q
  ·exact h3 b q
  ·omega
 have kk : Kp (b5 :: Ja1 ad) W W3 := ((k1.mono sI).trans (k2.mono (fun b hb => by simp [hb]))).trans (hu.kp _ (.inl sI))
 refine ⟨⟨⟨ad', cap', hu.blk, ho.upd hu (fun hm => by have := hn' _ hm; omega), hn'⟩, h.fresh, h.lt, ?_⟩, kk⟩
 exact h.kp.since kk (fun b hb => by
  rcases List.mem_cons.1 hb with rfl | hb
  ·exact h.fresh
  ·have := h3 b hb; have := h.fresh; omega)
end
section
variable {p : Option Addr} {F : List Nat} {E : List Ev} {R : List Int}
end
end
section
section
variable {E : List Ev} {R : List Int}
end
section
variable {s : Shp} {l : List Ev} {n : Nat}
variable (hn : n ≤ l.length)
include hn
end
section
variable {E : List Ev} {R : List Int} {n : Nat}
end
end
section
variable {w : World}
abbrev F2 := Int × Int
end
section
end
section
section
variable {E : List Ev} {R : List Int}
end
section
variable {E : List Ev} {R : List Int}
end
end
section
variable {w : World}
section
variable {p : Option Addr} {F : List Nat} {E : List Ev} {R : List Int}
end
end
section
variable {w : World}
end
section
variable {w : World}
section
variable {g : RrG} {E : List Ev} {R : List Int}
theorem RrAt.bat (h : RrAt w g E R) {i j : Int} (hi : 0 ≤ i ∧ i < E.length) (hj : 0 ≤ j ∧ j < E.length) : ∃ bb rb, g.bv = .slice (some ⟨bb, 0, none⟩) E.length E.length ∧ Blk w bb (Qa9 E.length 0 rb) 211 ∧ (Qa9 E.length 0 rb)[i.toNat]? = some (.slice (some ⟨rb i.toNat, 0, none⟩) E.length E.length) ∧ Blk w (rb i.toNat) (bl (fun k => befI E R i.toNat k) E.length) 4 ∧ (bl (fun k => befI E R i.toNat k) E.length)[j.toNat]? = some (.bool (befI E R i j)) := by
 obtain ⟨bb, rb, hbv, hR⟩ := h.rows
 have ei : ((i.toNat : Nat) : Int) = i := oM
 have ej : ((j.toNat : Nat) : Int) = j := oM
 exact ⟨bb, rb, hbv, hR.top, Qf4 rb oM oM, (hR.row i.toNat oM oM).1, by rw [Qb6 _ oM, ei, ej]⟩
theorem Jx8 (x : Ev) : Ret Tryz.prog 103 [.agg ⟨evC x⟩] w (fun v w' => v = .bool (accB x) ∧ Kp [] w w') := by
 refine Ze Tryz.call103 Tryz.func103 ?_
 refine zS ?_
 refine Zx ?_
 intro bx w1 hbx hu1
 have hB1 : Blk w1 bx (evC x) 86 := hu1.blk
 have k1 : Kp [] w w1 := hu1.new oM
 refine zS ?_
 refine Zl (v := I x.k) rfl hB1 ?_
 refine zS ?_
 by_cases h : x.k = 1
 ·refine o_is true 3 false rfl rfl rfl (decide_eq_true h) ?_
  refine zS ?_
  exact ⟨_, rfl, by unfold accB; rw [decide_eq_true h]; rfl, k1⟩
 ·refine o_is false 3 false rfl rfl rfl (decide_eq_false h) ?_
  refine zS ?_
  refine Zl (v := I x.k) rfl hB1 ?_
  refine zS ?_
  exact ⟨_, rfl, by unfold accB; rw [decide_eq_false h]; rfl, k1⟩
theorem rRace_ret (h : RrAt w g E R) {i j : Nat} (hi : i < j) (hj : j < E.length) : Ret Tryz.prog 58 [ptr g.p, I i, I j] w (fun v w' => v = .bool (raceI E R i j) ∧ Kp [] w w') := by
 have hsm := h.small
 obtain ⟨eb, eo, hea, hei⟩ := h.toRrB.evat (i := i) oM oM
 obtain ⟨eb2, eo2, hea2, hej⟩ := h.toRrB.evat (i := j) oM oM
 rw [hea] at hea2
 cases hea2
 rw [Int.toNat_natCast] at hei hej
 have hh := h.hdr
 rw [hea] at hh
 unfold raceI
 generalize evA E i = a at hei ⊢
 generalize evA E j = b at hej ⊢
 refine Ze Tryz.call58 Tryz.func58 ?_
 refine zS ?_
 refine Zc (Qa1 h.toRrB i) ?_
 rintro v w1 ⟨rfl, rfl⟩
 rw [decide_eq_true (p := (0 : Int) ≤ (i : Int) ∧ (i : Int) < (E.length : Int)) ⟨oM, oM⟩]
 refine zS ?_
 refine Zc (Qa1 h.toRrB j) ?_
 rintro v w1 ⟨rfl, rfl⟩
 rw [decide_eq_true (p := (0 : Int) ≤ (j : Int) ∧ (j : Int) < (E.length : Int)) ⟨oM, oM⟩]
 refine zS ?_
 refine r_if rfl (fun hc => ?_) (fun hc => ?_)
 ·omega
 refine zS ?_
 refine Zl (v := .slice (some ⟨eb, eo, none⟩) E.length g.ecap) rfl hh ?_
 refine zS ?_
 refine Zm (b := eb) (off := eo + i * 3) (vs := evC a) rfl (hei _ (Kp.refl _ _)) ?_
 refine Za ?_
 intro ba w2 hba hu2
 refine Zs (cs := evC a) rfl hu2.blk lR rfl (by simp [Value.oneCell']) ?_
 intro w3 hu3
 have k3 : Kp [] w1 w3 := (hu2.new oM).since (hu3.kp [ba] (.inl sI)) (by simp; omega)
 have hA3 : Blk w3 ba (evC a) 86 := hu3.blk
 refine zS ?_
 refine Zl (v := .slice (some ⟨eb, eo, none⟩) E.length g.ecap) rfl (k3.b0 hh) ?_
 refine zS ?_
 refine Zm (b := eb) (off := eo + j * 3) (vs := evC b) rfl (hej _ k3) ?_
 refine Za ?_
 intro bb w4 hbb hu4
 refine Zs (cs := evC b) rfl hu4.blk lR rfl (by simp [Value.oneCell']) ?_
 intro w5 hu5
 have k5 : Kp [] w3 w5 := (hu4.new oM).since (hu5.kp [bb] (.inl sI)) (by simp; omega)
 have hB5 : Blk w5 bb (evC b) 86 := hu5.blk
 have hA5 := k5.b0 hA3
 have k15 := k3.trans k5
 refine zS ?_
 refine Zm (vs := evC a) rfl (fun m v hv => by rw [Nat.zero_add]; exact hA5.cell hv) ?_
 refine zS ?_
 refine Zc (Jx8 a) ?_
 rintro v w6 ⟨rfl, k6⟩
 have k16 := k15.trans k6
 have hA6 := k6.b0 hA5
 have hB6 := k6.b0 hB5
 cases ha : accB a with
 | false =>
  refine zS ?_
  exact ⟨_, rfl, sI, k16⟩
 | true =>
  refine zS ?_
  refine Zm (vs := evC b) rfl (fun m v hv => by rw [Nat.zero_add]; exact hB6.cell hv) ?_
  refine zS ?_
  refine Zc (Jx8 b) ?_
  rintro v w7 ⟨rfl, k7⟩
  have k17 := k16.trans k7
  have hA := k7.b0 hA6
  have hB := k7.b0 hB6
  have h7 := h.kp0 k17
  cases hb : accB b with
  | false =>
   refine zS ?_
   exact ⟨_, rfl, sI, k17⟩
  | true =>
   refine zS ?_
   refine Zl (v := I a.o) rfl hA ?_
   refine zS ?_
   refine Zl (v := I b.o) rfl hB ?_
   refine zS ?_
   by_cases ho : a.o = b.o
   rotate_left
   ·rw [decide_eq_false ho]
    refine zS ?_
    exact ⟨_, rfl, sI, k17⟩
   rw [decide_eq_true ho]
   refine zS ?_
   refine Zl (v := I a.t) rfl hA ?_
   refine zS ?_
   refine Zl (v := I b.t) rfl hB ?_
   refine zS ?_
   by_cases ht : a.t = b.t
   ·rw [decide_eq_true ht]
    refine zS ?_
    exact ⟨_, rfl, sI, k17⟩
   rw [decide_eq_false ht]
   refine zS ?_
   refine Zl (v := I a.k) rfl hA ?_
   refine zS ?_
   obtain ⟨bb8, rb, hbv, h1, h2, h3, h4⟩ := h7.bat (i := i) (j := j) ⟨oM, oM⟩ ⟨oM, oM⟩
   have hh7 := h7.hdr
   rw [hbv] at hh7
   by_cases q2 : a.k = 2
   ·rw [decide_eq_true q2]
    refine zS ?_
    refine Zl (v := .slice (some ⟨bb8, 0, none⟩) E.length E.length) rfl hh7 ?_
    refine zS ?_
    refine Jf4 (b := bb8) (off := i) (v := .slice (some ⟨rb i, 0, none⟩) E.length E.length) (by show Value.pointer (some ⟨bb8, 0 + (i : Int).toNat, none⟩) = _; rw [Nat.zero_add, Int.toNat_natCast]) h1 h2 rfl rfl rfl rfl ?_
    refine zS ?_
    refine Jf4 (b := rb i) (off := j) (v := .bool (befI E R i j)) (by show Value.pointer (some ⟨rb i, 0 + (j : Int).toNat, none⟩) = _; rw [Nat.zero_add, Int.toNat_natCast]) h3 h4 rfl rfl rfl rfl ?_
    refine zS ?_
    exact ⟨_, rfl, sI, k17⟩
   ·rw [decide_eq_false q2]
    refine zS ?_
    refine Zl (v := I b.k) rfl hB ?_
    refine zS ?_
    by_cases q3 : b.k = 2
    ·rw [decide_eq_true q3]
     refine zS ?_
     refine Zl (v := .slice (some ⟨bb8, 0, none⟩) E.length E.length) rfl hh7 ?_
     refine zS ?_
     refine Jf4 (b := bb8) (off := i) (v := .slice (some ⟨rb i, 0, none⟩) E.length E.length) (by show Value.pointer (some ⟨bb8, 0 + (i : Int).toNat, none⟩) = _; rw [Nat.zero_add, Int.toNat_natCast]) h1 h2 rfl rfl rfl rfl ?_
     refine zS ?_
     refine Jf4 (b := rb i) (off := j) (v := .bool (befI E R i j)) (by show Value.pointer (some ⟨rb i, 0 + (j : Int).toNat, none⟩) = _; rw [Nat.zero_add, Int.toNat_natCast]) h3 h4 rfl rfl rfl rfl ?_
     refine zS ?_
     exact ⟨_, rfl, sI, k17⟩
    ·rw [decide_eq_false q3]
     refine zS ?_
     exact ⟨_, rfl, sI, k17⟩
end
section
variable {pb : Option Addr} {E : List Ev} {R : List Int}
theorem RaV.small (h : RaV w (.pointer pb) E R) : E.length ≤ 2048 := by
 rcases h with ⟨_, rfl, _⟩ | ⟨g, _, h⟩
 ·simp
 ·exact h.small
end
end
section
variable {w : World}
section
variable {pb : Option Addr} {E : List Ev} {R : List Int}
end
end
section
section
variable {E : List Ev} {R : List Int}
theorem race_I {b a : Nat} (hb : b < a) (ha : a < E.length) : Qk2 E R b a = raceI E R b a ∧ Qk2 E R a b = raceI E R b a := by
 have e1 : evI E (b : Int) = evA E b := by unfold evI; rw [if_pos oM]; rfl
 have e2 : evI E (a : Int) = evA E a := by unfold evI; rw [if_pos oM]; rfl
 have h1 : befI E R (a : Int) (b : Int) = false := by
  rw [Bool.eq_false_iff]
  intro h
  have := Jv9 h
  omega
 have d1 : decide (0 ≤ (a : Int) ∧ (a : Int) < E.length) = true := decide_eq_true oM
 have d2 : decide (0 ≤ (b : Int) ∧ (b : Int) < E.length) = true := decide_eq_true oM
 have d3 : decide ((b : Int) ≠ a) = true := decide_eq_true oM
 have d4 : decide ((a : Int) ≠ b) = true := decide_eq_true oM
 have c1 : decide ((evA E a).o = (evA E b).o) = decide ((evA E b).o = (evA E a).o) := by rw [Bool.eq_iff_iff]; simp [eq_comm]
 have c2 : decide ((evA E a).t = (evA E b).t) = decide ((evA E b).t = (evA E a).t) := by rw [Bool.eq_iff_iff]; simp [eq_comm]
 unfold Qk2 raceI Qm8 accQ accB
 rw [e1, e2, h1, d1, d2, d3, d4, c1, c2]
 constructor
 ·cases befI E R (b : Int) (a : Int) <;> cases decide ((evA E b).k = 1) <;> cases decide ((evA E b).k = 2) <;> cases decide ((evA E a).k = 1) <;> cases decide ((evA E a).k = 2) <;> cases decide ((evA E b).o = (evA E a).o) <;> cases decide ((evA E b).t = (evA E a).t) <;> rfl
 ·cases befI E R (b : Int) (a : Int) <;> cases decide ((evA E b).k = 1) <;> cases decide ((evA E b).k = 2) <;> cases decide ((evA E a).k = 1) <;> cases decide ((evA E a).k = 2) <;> cases decide ((evA E b).o = (evA E a).o) <;> cases decide ((evA E b).t = (evA E a).t) <;> rfl
theorem race_ne {i : Int} : Qk2 E R i i = false := by
 unfold Qk2 Qm8
 have : decide ((i : Int) ≠ i) = false := sI
 rw [this]
 simp
end
section
variable {s : Shp} {E : List Ev}
end
end
section
variable {w : World}
structure AkG where
 p : Nat
 w1 : World
 g : RrG
 E : List Ev
 R : List Int
 l : List QN
 qad : Option Addr
 qcap : Nat
 fuel : Nat
structure AkG.Ok (k : AkG) : Prop where
 rows : Rows k.w1 k.qad k.qcap k.l
 ord : RrAt k.w1 k.g k.E k.R
 lo : k.w1.heap.size ≤ k.p
 fl : k.fuel ≤ 67108864
structure NA where
 nad : Option Addr
 ncap : Nat
 aad : Option Addr
 acap : Nat
structure AkO (w : World) (k : AkG) (L : List (List UInt8 × Int)) (s : Int) (x : NA) : Prop where
 hdr : Blk w k.p [.slice k.qad k.l.length k.qcap, ptr k.g.p, .slice x.nad L.length x.ncap, .slice x.aad L.length x.acap, I s, I k.fuel] 161
 kp : Kp [] k.w1 w
 nm : OwnS w 9 1 x.nad L.length x.ncap (L.map fun y => S y.1)
 at_ : OwnS w 3 1 x.aad L.length x.acap (L.map fun y => I y.2)
 lo : ∀ b, b ∈ Ja1 x.nad ++ Ja1 x.aad → k.w1.heap.size ≤ b ∧ b ≠ k.p
 ne : ∀ b, b ∈ Ja1 x.nad → b ∉ Ja1 x.aad
theorem AkO.kp0 {w' : World} {k : AkG} {L : List (List UInt8 × Int)} {s : Int} {x : NA} (h : AkO w k L s x) (hk : Kp [] w w') : AkO w' k L s x :=
 ⟨hk.b0 h.hdr, h.kp.trans hk, h.nm.kp hk sI, h.at_.kp hk sI, h.lo, h.ne⟩
section
variable {k : AkG} {L : List (List UInt8 × Int)} {s : Int} {x : NA}
theorem Jw1 (hk : k.Ok) (h : AkO w k L s x) (n : Int) : Ret Tryz.prog 151 [ptr k.p, I n] w (fun v w' => v = .tuple #[.agg ⟨evC (evI k.E n)⟩, .bool (decide (0 ≤ n ∧ n < k.E.length))] ∧ Kp [] w w') := by
 have ho := hk.ord.kp0 h.kp
 have hsm := ho.small
 have out : ¬ (0 ≤ n ∧ n < k.E.length) → evI k.E n = ⟨0, 0, 0⟩ := fun q => by unfold evI; rw [if_neg q]
 refine Zd Tryz.call151 Tryz.func151 ?_
 refine zS ?_
 refine Za ?_
 intro b4 w1 e4 hu1
 have k1 : Kp [] w w1 := hu1.new oM
 have g4 : Blk w1 b4 (evC ⟨0, 0, 0⟩) 86 := hu1.blk
 have n4 : w.heap.size ≤ b4 := oM
 have h1 := h.kp0 k1
 have ho := ho.kp0 k1
 clear hu1
 have fin : ∀ {e : Env} {W : World} {y : Ev} {b : Bool}, e 4 = ptr b4 → e 5 = .bool b → Blk W b4 (evC y) 86 → resC Tryz.prog e W [.cell 4 86, .tmp 5] [.agg ⟨evC y⟩, .bool b] := fun h1 h2 h3 => ⟨⟨_, h1, Jb9 h3 rfl rfl rfl rfl⟩, ⟨none, by rw [h2]; rfl⟩, trivial⟩
 have bad : ∀ {e : Env} {W : World}, ¬ (0 ≤ n ∧ n < k.E.length) → e 4 = ptr b4 → e 5 = .bool false → Blk W b4 (evC ⟨0, 0, 0⟩) 86 → Kp [b4] w1 W → ∃ us, resC Tryz.prog e W [.cell 4 86, .tmp 5] us ∧ tupV us = .tuple #[.agg ⟨evC (evI k.E n)⟩, .bool (decide (0 ≤ n ∧ n < k.E.length))] ∧ Kp [] w W := fun q h1 h2 h3 h4 =>
  ⟨_, fin h1 h2 h3, by rw [out q, decide_eq_false q]; rfl, k1.since h4 (by simpa using n4)⟩
 refine zS ?_
 refine Ja5 _ _ rfl rfl rfl (fun q => ?_) (fun q => ?_)
 ·have q : n < 0 := of_decide_eq_true q
  refine zS ?_
  refine Zb (evC ⟨0, 0, 0⟩) ?_
  refine Zs (b := b4) (cs := evC ⟨0, 0, 0⟩) rfl g4 lR rfl (by simp [Value.oneCell']) ?_
  intro w2 hu2
  refine zS ?_
  exact bad oM rfl rfl hu2.blk (hu2.kp [b4] (.inl sI))
 have q : ¬ n < 0 := of_decide_eq_false q
 refine zL h1.hdr ?_
 refine Zc (Jw6 ho.toRrB) ?_
 rintro v w2 ⟨rfl, rfl⟩
 refine zS ?_
 refine r_if rfl (fun q2 => ?_) (fun q2 => ?_)
 ·refine zS ?_
  refine Zb (evC ⟨0, 0, 0⟩) ?_
  refine Zs (b := b4) (cs := evC ⟨0, 0, 0⟩) rfl g4 lR rfl (by simp [Value.oneCell']) ?_
  intro w3 hu3
  refine zS ?_
  exact bad oM rfl rfl hu3.blk (hu3.kp [b4] (.inl sI))
 ·have hin : 0 ≤ n ∧ n < k.E.length := oM
  obtain ⟨b, off, hea, hev⟩ := ho.toRrB.evat hin.1 hin.2
  have hd := ho.hdr
  rw [hea] at hd
  refine zL h1.hdr ?_
  refine zL hd ?_
  refine Zm (vs := evC (evA k.E n.toNat)) rfl (fun j v hv => hev _ (Kp.refl _ _) j v hv) ?_
  refine Zs (b := b4) (cs := evC (evA k.E n.toNat)) rfl g4 lR rfl (by simp [Value.oneCell']) ?_
  intro w3 hu3
  rw [decide_eq_true hin, show evI k.E n = evA k.E n.toNat from by unfold evI; rw [if_pos hin]]
  refine zS ?_
  exact ⟨_, fin rfl rfl hu3.blk, rfl, k1.since (hu3.kp [b4] (.inl sI)) (by simpa using n4)⟩
def Je8 (L : List (List UInt8 × Int)) (n : List UInt8) : Int := ((L.reverse.find? fun y => decide (y.1 = n)).map (·.2)).getD 0
theorem chosen_snoc (n : List UInt8) (i : Int) : Je8 (L ++ [(n, i)]) = setV (Je8 L) n i := by
 funext m
 unfold Je8 setV
 rw [List.reverse_append, List.reverse_singleton, List.singleton_append]
 by_cases h : m = n
 ·rw [if_pos h, List.find?_cons_of_pos (by simp [h])]; rfl
 ·rw [if_neg h, List.find?_cons_of_neg (by simp; exact fun q => h q.symm)]
theorem chosen_none {n : List UInt8} (h : ∀ y ∈ L, y.1 ≠ n) : Je8 L n = 0 := by
 unfold Je8
 rw [List.find?_eq_none.2 (fun y hy => by simpa using h y (List.mem_reverse.1 hy))]; rfl
theorem chosen_hit {n : List UInt8} {j : Nat} {y : List UInt8 × Int} (hy : L[j]? = some y) (hn : y.1 = n) (h : ∀ z ∈ L.drop (j + 1), z.1 ≠ n) : Je8 L n = y.2 := by
 have e : L = L.take j ++ (y :: L.drop (j + 1)) := by
  conv => lhs; rw [← List.take_append_drop j L]
  rw [List.drop_eq_getElem_cons (List.getElem?_eq_some_iff.1 hy).1]
  rw [(List.getElem?_eq_some_iff.1 hy).2]
 unfold Je8
 rw [e, List.reverse_append, List.reverse_cons, List.append_assoc, List.find?_append, List.find?_eq_none.2 (fun z hz => by simpa using h z (List.mem_reverse.1 hz)), Option.none_or, List.singleton_append, List.find?_cons_of_pos (by simpa using hn)]; rfl
theorem chosen30_ret (h : AkO w k L s x) (n : List UInt8) (hl : L.length ≤ 1048576) : Ret Tryz.prog 115 [ptr k.p, S n] w (fun v w' => v = I (Je8 L n) ∧ Kp [] w w') := by
 refine Ze Tryz.call115 Tryz.func115 ?_
 refine zL h.hdr ?_
 refine Jb4 (α := Nat) [0, 1, 5] (fun j => [ptr k.p, S n, I ((j : Int) - 1)]) (fun j W => j ≤ L.length ∧ W = w ∧ ∀ z ∈ L.drop j, z.1 ≠ n) (fun j => j) L.length rfl ⟨lR, rfl, sI⟩ ?_
 rintro j e W ⟨hj, rfl, hno⟩
 refine zS ?_
 refine r_if rfl (fun hc => ?_) (fun hc => ?_)
 ·obtain ⟨i, rfl⟩ : ∃ i, j = i + 1 := ⟨j - 1, oM⟩
  obtain ⟨y, hy⟩ : ∃ y, L[i]? = some y := ⟨_, List.getElem?_eq_getElem oM⟩
  obtain ⟨nb, noff, hnad, hnl, hnc⟩ := h.nm.read.at_ (by simp; omega)
  obtain ⟨ab, aoff, haad, hal, hac⟩ := h.at_.read.at_ (by simp; omega)
  have hd := h.hdr
  rw [hnad, haad] at hd
  rw [show ((i + 1 : Nat) : Int) - 1 = (i : Int) by omega]
  refine zL hd ?_
  refine Zo (v := S y.1) rfl (by rw [Ja2]; exact hnc i _ (by rw [List.getElem?_map, hy]; rfl)) ?_
  refine zS ?_
  refine r_if rfl (fun he => ?_) (fun he => ?_)
  ·refine zL hd ?_
   refine Zo (v := I y.2) rfl (by rw [Ja2]; exact hac i _ (by rw [List.getElem?_map, hy]; rfl)) ?_
   refine zS ?_
   exact ⟨_, rfl, by rw [chosen_hit hy he hno], Kp.refl _ _⟩
  ·refine zS ?_
   refine ⟨i, rfl, ⟨oM, rfl, fun z hz => ?_⟩, oM⟩
   rw [List.drop_eq_getElem_cons (List.getElem?_eq_some_iff.1 hy).1] at hz
   rcases List.mem_cons.1 hz with rfl | hz
   ·rw [(List.getElem?_eq_some_iff.1 hy).2]; exact he
   ·exact hno z hz
 ·obtain rfl : j = 0 := oM
  rw [List.drop_zero] at hno
  rw [chosen_none hno]
  refine zS ?_
  exact ⟨_, rfl, rfl, Kp.refl _ _⟩
theorem Ji2 (b : Bool) : Ret Tryz.prog 152 [.bool b] w (fun v w' => v = I (trI b) ∧ w' = w) := by
 refine Ze Tryz.call152 Tryz.func152 ?_
 cases b with
 | true =>
  refine zS ?_
  exact ⟨_, rfl, rfl, rfl⟩
 | false =>
  refine zS ?_
  exact ⟨_, rfl, rfl, rfl⟩
theorem Qa0 (hk : k.Ok) (h : AkO w k L s x) {op : Int} (hop : op = 8 ∨ op = 9 ∨ op = 10) (n : Int) : Ret Tryz.prog 117 [ptr k.p, I op, I n] w (fun v w' => v = I (partQ k.E op n) ∧ Kp [] w w') := by
 refine Ze Tryz.call117 Tryz.func117 ?_
 refine zS ?_
 refine Zc (Jw1 hk h n) ?_
 rintro v w1 ⟨rfl, k1⟩
 refine zS ?_
 refine Za ?_
 intro b7 w2 e7 hu2
 refine Zs (b := b7) (cs := evC (evI k.E n)) rfl hu2.blk lR rfl (by simp [Value.oneCell']) ?_
 intro w3 hu3
 have k13 : Kp [] w1 w3 := (hu2.new oM).since (hu3.kp [b7] (.inl sI)) (by simp; omega)
 have g7 : Blk w3 b7 (evC (evI k.E n)) 86 := hu3.blk
 have k0 := k1.trans k13
 clear hu2 hu3
 unfold partQ
 refine zS ?_
 refine r_if rfl (fun h8 => ?_) (fun h8 => ?_)
 ·rw [if_neg oM, if_pos h8]
  refine zS ?_
  refine Jn8 rfl (fun q => ?_) (fun q => ?_)
  ·rw [if_neg q]
   refine zS ?_
   exact ⟨_, rfl, rfl, k0⟩
  ·rw [if_pos q]
   refine zL g7 ?_
   exact ⟨_, rfl, rfl, k0⟩
 refine zS ?_
 refine r_if rfl (fun h9 => ?_) (fun h9 => ?_)
 ·rw [if_pos h9]
  refine zL g7 ?_
  exact ⟨_, rfl, rfl, k0⟩
 rw [if_neg h9, if_neg h8]
 refine zS ?_
 refine Jn8 rfl (fun q => ?_) (fun q => ?_)
 ·rw [if_neg q]
  refine zS ?_
  exact ⟨_, rfl, rfl, k0⟩
 ·rw [if_pos q]
  refine zL g7 ?_
  exact ⟨_, rfl, rfl, k0⟩
theorem raceQ_out {E : List Ev} {R : List Int} {y z : Int} (h : ¬ ((0 ≤ y ∧ y < E.length) ∧ 0 ≤ z ∧ z < E.length)) : Qk2 E R y z = false := by
 unfold Qk2
 by_cases h1 : 0 ≤ y ∧ y < E.length
 ·rw [decide_eq_false (show ¬ (0 ≤ z ∧ z < E.length) from fun h2 => h ⟨h1, h2⟩)]; simp
 ·rw [decide_eq_false h1]; simp
theorem two30_ret (hk : k.Ok) (h : AkO w k L s x) (op y z : Int) (hop : op ≠ 20 → op = 21 ∨ op = 5 ∨ op = 6 ∨ op = 7 ∨ (11 ≤ op ∧ op ≤ 16)) : Ret Tryz.prog 118 [ptr k.p, I op, I y, I z] w (fun v w' => v = I (Qj5 (qwO k.E k.R) op y z) ∧ Kp [] w w') := by
 refine Ze Tryz.call118 Tryz.func118 ?_
 unfold Qj5
 refine zS ?_
 refine r_if rfl (fun h5 => ?_) (fun h5 => ?_)
 ·rw [if_pos h5]
  refine zA ?_
  refine zg ?_
  refine Zr ?_
  refine Zr ?_
  refine o_addW rfl rfl rfl rfl ?_
  refine zS ?_
  exact ⟨_, rfl, rfl, Kp.refl _ _⟩
 rw [if_neg h5]
 refine zS ?_
 refine r_if rfl (fun h6 => ?_) (fun h6 => ?_)
 ·rw [if_pos h6]
  refine zA ?_
  refine zg ?_
  refine Zr ?_
  refine Zr ?_
  refine o_subW rfl rfl rfl rfl ?_
  refine zS ?_
  exact ⟨_, rfl, rfl, Kp.refl _ _⟩
 rw [if_neg h6]
 refine zS ?_
 refine r_if rfl (fun h7 => ?_) (fun h7 => ?_)
 ·rw [if_pos h7]
  refine zA ?_
  refine zg ?_
  refine Zr ?_
  refine Zr ?_
  refine o_mulW rfl rfl rfl rfl ?_
  refine zS ?_
  exact ⟨_, rfl, rfl, Kp.refl _ _⟩
 rw [if_neg h7]
 refine zS ?_
 refine r_if rfl (fun h11 => ?_) (fun h11 => ?_)
 ·rw [if_pos h11]
  refine zS ?_
  refine Zc (Ji2 _) ?_
  rintro v w1 ⟨rfl, rfl⟩
  refine zS ?_
  exact ⟨_, rfl, rfl, Kp.refl _ _⟩
 rw [if_neg h11]
 refine zS ?_
 refine r_if rfl (fun h12 => ?_) (fun h12 => ?_)
 ·rw [if_pos h12]
  refine zS ?_
  refine Zc (Ji2 _) ?_
  rintro v w1 ⟨rfl, rfl⟩
  refine zS ?_
  exact ⟨_, rfl, rfl, Kp.refl _ _⟩
 rw [if_neg h12]
 refine zS ?_
 refine r_if rfl (fun h13 => ?_) (fun h13 => ?_)
 ·rw [if_pos h13]
  refine zS ?_
  refine Zc (Ji2 _) ?_
  rintro v w1 ⟨rfl, rfl⟩
  refine zS ?_
  exact ⟨_, rfl, rfl, Kp.refl _ _⟩
 rw [if_neg h13]
 refine zS ?_
 refine r_if rfl (fun h14 => ?_) (fun h14 => ?_)
 ·rw [if_pos h14]
  refine zS ?_
  refine Zc (Ji2 _) ?_
  rintro v w1 ⟨rfl, rfl⟩
  refine zS ?_
  exact ⟨_, rfl, rfl, Kp.refl _ _⟩
 rw [if_neg h14]
 refine zS ?_
 refine r_if rfl (fun h15 => ?_) (fun h15 => ?_)
 ·rw [if_pos h15]
  refine zS ?_
  refine Zc (Ji2 _) ?_
  rintro v w1 ⟨rfl, rfl⟩
  refine zS ?_
  exact ⟨_, rfl, rfl, Kp.refl _ _⟩
 rw [if_neg h15]
 refine zS ?_
 refine r_if rfl (fun h16 => ?_) (fun h16 => ?_)
 ·rw [if_pos h16]
  refine zS ?_
  refine Zc (Ji2 _) ?_
  rintro v w1 ⟨rfl, rfl⟩
  refine zS ?_
  exact ⟨_, rfl, rfl, Kp.refl _ _⟩
 rw [if_neg h16]
 refine zS ?_
 refine Zc (Jw1 hk h y) ?_
 rintro v w1 ⟨rfl, k1⟩
 refine zS ?_
 refine Za ?_
 intro b9 w2 e9 hu2
 refine Zs (b := b9) (cs := evC (evI k.E y)) rfl hu2.blk lR rfl (by simp [Value.oneCell']) ?_
 intro w3 hu3
 have k3 : Kp [] w w3 := k1.trans ((hu2.new oM).since (hu3.kp [b9] (.inl sI)) (by simp; omega))
 clear hu2 hu3
 refine zS ?_
 refine Zc (Jw1 hk (h.kp0 k3) z) ?_
 rintro v w4 ⟨rfl, k4⟩
 refine zS ?_
 refine Za ?_
 intro b11 w5 e11 hu5
 refine Zs (b := b11) (cs := evC (evI k.E z)) rfl hu5.blk lR rfl (by simp [Value.oneCell']) ?_
 intro w6 hu6
 have k6 : Kp [] w w6 := (k3.trans k4).trans ((hu5.new oM).since (hu6.kp [b11] (.inl sI)) (by simp; omega))
 clear hu5 hu6
 have h6 := h.kp0 k6
 have ho := hk.ord.kp0 h6.kp
 by_cases hy : 0 ≤ y ∧ y < k.E.length
 rotate_left
 ·rw [decide_eq_false hy]
  have hr : (if op = 20 then trI ((qwO k.E k.R).bef y z) else trI ((qwO k.E k.R).race y z)) = 0 := by
   rw [show (qwO k.E k.R).bef y z = false from Bool.eq_false_iff.2 fun q => hy ⟨(Jv9 q).1, by have := Jv9 q; omega⟩, show (qwO k.E k.R).race y z = false from raceQ_out fun q => hy q.1]; split <;> rfl
  rw [hr]
  refine zS ?_
  exact ⟨_, rfl, rfl, k6⟩
 rw [decide_eq_true hy]
 by_cases hz : 0 ≤ z ∧ z < k.E.length
 rotate_left
 ·rw [decide_eq_false hz]
  have hr : (if op = 20 then trI ((qwO k.E k.R).bef y z) else trI ((qwO k.E k.R).race y z)) = 0 := by
   rw [show (qwO k.E k.R).bef y z = false from Bool.eq_false_iff.2 fun q => hz ⟨by have := Jv9 q; omega, (Jv9 q).2.2⟩, show (qwO k.E k.R).race y z = false from raceQ_out fun q => hz q.2]; split <;> rfl
  rw [hr]
  refine zS ?_
  exact ⟨_, rfl, rfl, k6⟩
 rw [decide_eq_true hz]
 refine zS ?_
 refine r_if rfl (fun h20 => ?_) (fun h20 => ?_)
 ·rw [if_pos h20]
  refine zL h6.hdr ?_
  refine Zc (rHappens_ret ho y z) ?_
  rintro v w7 ⟨rfl, rfl⟩
  refine Zc (Ji2 _) ?_
  rintro v w8 ⟨rfl, rfl⟩
  refine zS ?_
  exact ⟨_, rfl, rfl, k6⟩
 rw [if_neg h20]
 show Wp _ _ _ _ _ _ _ _ _
 obtain ⟨i, rfl⟩ : ∃ i : Nat, y = i := ⟨y.toNat, oM⟩
 obtain ⟨j, rfl⟩ : ∃ j : Nat, z = j := ⟨z.toNat, oM⟩
 refine zS ?_
 refine r_if rfl (fun hgt => ?_) (fun hgt => ?_)
 ·rw [show (qwO k.E k.R).race i j = raceI k.E k.R j i from (race_I oM oM).2]
  refine zL h6.hdr ?_
  refine Zc (rRace_ret ho (i := j) (j := i) oM oM) ?_
  rintro v w7 ⟨rfl, k7⟩
  refine Zc (Ji2 _) ?_
  rintro v w8 ⟨rfl, rfl⟩
  refine zS ?_
  exact ⟨_, rfl, rfl, k6.trans k7⟩
 refine zS ?_
 refine Ja5 _ _ rfl rfl rfl (fun hlt => ?_) (fun hlt => ?_)
 ·have hlt : (i : Int) < j := of_decide_eq_true hlt
  rw [show (qwO k.E k.R).race i j = raceI k.E k.R i j from (race_I oM oM).1]
  refine zL h6.hdr ?_
  refine Zc (rRace_ret ho (i := i) (j := j) oM oM) ?_
  rintro v w7 ⟨rfl, k7⟩
  refine zS ?_
  refine Zc (Ji2 _) ?_
  rintro v w8 ⟨rfl, rfl⟩
  refine zS ?_
  exact ⟨_, rfl, rfl, k6.trans k7⟩
 ·have hlt : ¬ (i : Int) < j := of_decide_eq_false hlt
  obtain rfl : i = j := oM
  rw [show (qwO k.E k.R).race i i = false from race_ne]
  refine zS ?_
  refine Zc (Ji2 _) ?_
  rintro v w7 ⟨rfl, rfl⟩
  refine zS ?_
  exact ⟨_, rfl, rfl, k6⟩
end
end
end Go.Vc
