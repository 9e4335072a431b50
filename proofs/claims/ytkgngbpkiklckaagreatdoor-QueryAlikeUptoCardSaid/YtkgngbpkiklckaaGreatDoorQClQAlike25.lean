/- feasible: the plain model; a checker in memory; none, Full, Can. -/
import Derived.Test.YtkgngbpkiklckaaGreatDoorQClQAlike9
import Derived.Test.YtkgngbpkiklckaaGreatDoorQClQAlike5
namespace Go.Vc
open Go Go.Proofs
set_option maxRecDepth 10000
variable {w : World}
/-! ### The model -/
structure Ev where
  k : Int
  t : Int
  o : Int
abbrev evC (x : Ev) : List Value := [I x.k, I x.t, I x.o]
structure Std where
  ph : Int
  ba : Int
  ro : Int
abbrev stdC (s : Std) : List Value := [I s.ph, I s.ba, I s.ro]
abbrev stdV (s : Std) : Value := .agg ⟨stdC s⟩
structure Shp where
  th : Int
  va : Int
  vo : Int
  lo : Int
  pa : List Int
structure Ck where
  T : Int → Option Std
  O : Int → Option Int
  op : List (Int × Int)
  n : Nat
abbrev opC2 (x : Int × Int) : List Value := [I x.1, I x.2]
def opsC (l : List (Int × Int)) : List Value := l.flatMap opC2
def st (c : Ck) (t : Int) : Std := (c.T t).getD ⟨0, 0, 0⟩
def shapeOk (s : Shp) : Prop := (1 ≤ s.th ∧ s.th ≤ 65535) ∧ (0 ≤ s.va ∧ s.va ≤ 4096) ∧ (0 ≤ s.vo ∧ s.vo ≤ 4096) ∧ (0 ≤ s.lo ∧ s.lo ≤ 4096) ∧ s.pa.length ≤ 4096 ∧ ∀ x ∈ s.pa, 1 ≤ x ∧ x ≤ 65535
structure CkOk (s : Shp) (c : Ck) : Prop where
  sh : shapeOk s
  T : ∀ t x, c.T t = some x → (0 ≤ t ∧ t < s.th) ∧ (x.ph = 2 → 0 ≤ x.ba ∧ x.ba < c.op.length)
  O : ∀ l t, c.O l = some t → (0 ≤ l ∧ l < s.lo) ∧ 0 ≤ t
  op : c.op.length = s.pa.length
  rng : ∀ x ∈ c.op, (0 ≤ x.1 ∧ x.1 ≤ c.n) ∧ (0 ≤ x.2 ∧ x.2 ≤ c.n)
def opAt (c : Ck) (i : Int) : Int × Int := (c.op[i.toNat]?).getD (0, 0)
def fullB (c : Ck) (t : Int) : Bool := decide ((st c t).ph = 2) && decide ((st c t).ro < (opAt c (st c t).ba).1)
def canB (s : Shp) (c : Ck) (e : Ev) : Bool :=
  if (st c e.t).ph = 2 then (if e.k = 10 then (if e.o = (st c e.t).ba then fullB c e.t else false) else false)
  else if (st c e.t).ph ≠ 1 then false
  else if e.o < 0 then false
  else if e.k = 2 then decide (e.o < s.va)
  else if e.k = 1 then decide (e.o < s.va)
  else if e.k = 4 then decide (e.o < s.vo)
  else if e.k = 3 then decide (e.o < s.vo)
  else if e.k = 6 then (if c.O e.o = some e.t then decide (e.o < s.lo) else false)
  else if e.k = 5 then (if c.O e.o = none then decide (e.o < s.lo) else false)
  else if e.k = 7 then (if (st c e.o).ph = 0 then decide (e.o < s.th) else false)
  else if e.k = 8 then (if (st c e.o).ph = 3 then decide (e.o < s.th) else false)
  else if e.k = 9 then decide (e.o < c.op.length)
  else if e.k = 11 then decide (e.o < 1)
  else false
def upT {α : Type} (f : Int → Option α) (k : Int) (v : Option α) (x : Int) : Option α := if x = k then v else f x
def arrive (s : Shp) (c : Ck) (o : Int) : Int × Int :=
  if (opAt c o).2 + 1 = (s.pa[o.toNat]?).getD 0 then ((opAt c o).1 + 1, 0) else ((opAt c o).1, (opAt c o).2 + 1)
def nextC (s : Shp) (c : Ck) (e : Ev) : Ck :=
  if e.k = 5 then { c with O := upT c.O e.o (some e.t), n := c.n + 1 }
  else if e.k = 6 then { c with O := upT c.O e.o none, n := c.n + 1 }
  else if e.k = 7 then { c with T := upT c.T e.o (some ⟨1, 0, 0⟩), n := c.n + 1 }
  else if e.k = 9 then { c with T := upT c.T e.t (some ⟨2, e.o, (opAt c e.o).1⟩), op := c.op.set e.o.toNat (arrive s c e.o), n := c.n + 1 }
  else if e.k = 10 then { c with T := upT c.T e.t (some ⟨1, 0, 0⟩), n := c.n + 1 }
  else if e.k = 11 then { c with T := upT c.T e.t (some ⟨3, 0, 0⟩), n := c.n + 1 }
  else { c with n := c.n + 1 }
def newC (s : Shp) : Ck := ⟨upT (fun _ => none) 0 (some ⟨1, 0, 0⟩), fun _ => none, s.pa.map fun _ => (0, 0), 0⟩

/-! ### In memory -/
structure CkG where
  p : Nat
  m1 : Nat
  m2 : Nat
  pad : Option Addr
  pcap : Nat
  oad : Option Addr
  ocap : Nat
def CkG.F (g : CkG) : List Nat := g.p :: g.m1 :: g.m2 :: (blkOf g.pad ++ blkOf g.oad)
abbrev ckC (g : CkG) (s : Shp) (c : Ck) : List Value := [I s.th, I s.va, I s.vo, I s.lo, .slice g.pad s.pa.length g.pcap, .map (some g.m1), .map (some g.m2), .slice g.oad c.op.length g.ocap, I c.n]
def mapT (T : Int → Option Std) (k : Int) : Option Value := (T k).map stdV
def mapO (O : Int → Option Int) (k : Int) : Option Value := (O k).map I
structure CkM (w : World) (g : CkG) (s : Shp) (c : Ck) : Prop where
  hdr : Blk w g.p (ckC g s c) 237
  mt : MapI w g.m1 (mapT c.T)
  mo : MapI w g.m2 (mapO c.O)
  pa : OwnS w 3 1 g.pad s.pa.length g.pcap (s.pa.map I)
  op : OwnS w 131 2 g.oad c.op.length g.ocap (opsC c.op)
  nd : g.F.Nodup
structure CkAt (w : World) (g : CkG) (s : Shp) (c : Ck) : Prop extends CkM w g s c where
  ok : CkOk s c
theorem CkM.kp {w' : World} {S : List Nat} {g : CkG} {s : Shp} {c : Ck} (h : CkM w g s c) (hk : Kp S w w') (hS : ∀ b, b ∈ g.F → b ∉ S) : CkM w' g s c where
  hdr := hk.blk (hS g.p (by simp [CkG.F])) h.hdr
  mt := h.mt.kp hk (hS _ (by simp [CkG.F]))
  mo := h.mo.kp hk (hS _ (by simp [CkG.F]))
  pa := h.pa.kp hk (fun b hb => hS b (by simp [CkG.F, hb]))
  op := h.op.kp hk (fun b hb => hS b (by simp [CkG.F, hb]))
  nd := h.nd
theorem CkAt.kp {w' : World} {S : List Nat} {g : CkG} {s : Shp} {c : Ck} (h : CkAt w g s c) (hk : Kp S w w') (hS : ∀ b, b ∈ g.F → b ∉ S) : CkAt w' g s c := ⟨h.toCkM.kp hk hS, h.ok⟩
theorem CkAt.kp0 {w' : World} {g : CkG} {s : Shp} {c : Ck} (h : CkAt w g s c) (hk : Kp [] w w') : CkAt w' g s c := h.kp hk (by simp)
theorem CkAt.sm {w' : World} {g : CkG} {s : Shp} {c : Ck} (h : CkAt w g s c) (hk : Sm w w') : CkAt w' g s c := h.kp0 (hk.kp [])
theorem CkM.lt {g : CkG} {s : Shp} {c : Ck} (h : CkM w g s c) : ∀ b, b ∈ g.F → b < w.heap.size := by
  intro b hb
  simp only [CkG.F, List.mem_cons, List.mem_append] at hb
  rcases hb with rfl | rfl | rfl | hb | hb
  · exact h.hdr.lt
  · exact h.mt.lt
  · exact h.mo.lt
  · exact h.pa.lt b hb
  · exact h.op.lt b hb
theorem mapT_get (T : Int → Option Std) (k : Int) : (mapT T k).getD (.agg #[I 0, I 0, I 0]) = stdV ((T k).getD ⟨0, 0, 0⟩) := by
  unfold mapT; cases T k <;> rfl
theorem opsC_len (l : List (Int × Int)) : (opsC l).length = l.length * 2 := by
  induction l with
  | nil => rfl
  | cons x r ih => unfold opsC at *; rw [List.flatMap_cons, List.length_append, ih]; simp [opC2]; omega
theorem opsC_get : ∀ {l : List (Int × Int)} {i : Nat} {x : Int × Int}, l[i]? = some x → (opsC l)[i * 2]? = some (I x.1) ∧ (opsC l)[i * 2 + 1]? = some (I x.2)
  | [], i, x, h => by simp at h
  | y :: r, 0, x, h => by simp at h; subst h; simp [opsC, opC2]
  | y :: r, i + 1, x, h => by
    have ih := opsC_get (l := r) (i := i) (x := x) (by simpa using h)
    have e1 : opsC (y :: r) = I y.1 :: I y.2 :: opsC r := by simp [opsC, opC2]
    rw [e1]
    have e2 : (i + 1) * 2 = i * 2 + 2 := by omega
    rw [e2]
    exact ih
/-- the row of the open rounds: where it lies -/
theorem CkM.open_ {g : CkG} {s : Shp} {c : Ck} (h : CkM w g s c) {i : Nat} (hi : i < c.op.length) : ∃ b L, g.oad = some ⟨b, 0, none⟩ ∧ b ∈ g.F ∧ Blk w b L 131 ∧ (∃ junk, L = opsC c.op ++ junk) ∧ L[i * 2]? = some (I (opAt c i).1) ∧ L[i * 2 + 1]? = some (I (opAt c i).2) := by
  have ho := h.op
  cases hoad : g.oad with
  | none => rw [hoad] at ho; obtain ⟨h1, _⟩ := ho.2; omega
  | some ad =>
    obtain ⟨b, off, spot⟩ := ad
    rw [hoad] at ho
    obtain ⟨h1, h2, h3, h4, junk, h5, h6⟩ := ho.2
    dsimp only at h1 h2 h5
    subst h1 h2
    have hx : c.op[i]? = some (opAt c i) := by
      unfold opAt
      rw [Int.toNat_natCast, List.getElem?_eq_getElem hi]; rfl
    obtain ⟨g1, g2⟩ := opsC_get hx
    have hl := opsC_len c.op
    refine ⟨b, _, rfl, by simp [CkG.F, hoad, blkOf], h5, ⟨junk, rfl⟩, ?_, ?_⟩
    · rw [List.getElem?_append_left (by omega)]; exact g1
    · rw [List.getElem?_append_left (by omega)]; exact g2
section
variable {g : CkG} {s : Shp} {c : Ck}
theorem fnone_ret (h : CkAt w g s c) : Ret Tryz.prog 130 [ptr g.p] w (fun v w' => v = .bool false ∧ w' = w) := by
  refine enter Tryz.call130 Tryz.func130 rfl rfl rfl rfl ?_
  (repeat first|refine zA ?_|refine zg ?_|refine zo rfl rfl trivial ?_|refine zn ?_|refine zU rfl rfl rfl ?_)
  refine o_load (v := .map (some g.m1)) rfl h.hdr rfl rfl rfl rfl rfl ?_
  (repeat first|refine zo rfl rfl trivial ?_|refine zn ?_|refine zr ?_)
  exact ⟨_, rfl, rfl, rfl⟩
theorem st_ba (h : CkOk s c) {t : Int} (hp : (st c t).ph = 2) : 0 ≤ (st c t).ba ∧ (st c t).ba < c.op.length := by
  unfold st at hp ⊢
  cases hT : c.T t with
  | none => rw [hT] at hp; simp at hp
  | some x => rw [hT] at hp; exact (h.T t x hT).2 hp
set_option maxHeartbeats 1600000 in
theorem Full_ret (h : CkAt w g s c) (t : Int) : Ret Tryz.prog 161 [ptr g.p, I t] w (fun v w' => v = .bool (fullB c t) ∧ Kp [] w w') := by
  refine enter Tryz.call161 Tryz.func161 rfl rfl rfl rfl ?_
  (repeat first|refine zA ?_|refine zB ?_|refine zg ?_|refine zo rfl rfl trivial ?_|refine zn ?_)
  refine o_call (fnone_ret h) rfl rfl rfl ?_
  rintro v wx ⟨rfl, rfl⟩
  (repeat first|refine zA ?_|refine zg ?_|refine zo rfl rfl trivial ?_|refine zn ?_|refine zk ?_|refine zf rfl ?_)
  refine o_load (v := .map (some g.m1)) rfl h.hdr rfl rfl rfl rfl rfl ?_
  (repeat refine zo rfl rfl trivial ?_)
  refine o_lookI (stdV (st c t)) rfl rfl h.mt (mapT_get c.T t) rfl rfl rfl rfl rfl rfl ?_
  refine o_alloc rfl rfl rfl rfl ?_
  intro bt w1 hbt hu1
  refine o_storeA (cs := stdC (st c t)) rfl hu1.blk (Nat.le_refl _) rfl (by simp [Value.oneCell']) rfl rfl rfl rfl ?_
  intro w2 hu2
  have k2 : Kp [] wx w2 := (hu1.kp [] (.inr (by omega))).since (hu2.kp [bt] (.inl (by simp))) (by simp; omega)
  have hB : Blk w2 bt (stdC (st c t)) 136 := hu2.blk
  have h2 := h.kp0 k2
  (repeat refine zn ?_)
  refine r_seq ?_
  refine r_quietS follows_mixed (by kernel_rfl) ?_
  (repeat refine yo rfl rfl trivial ?_)
  refine q_load (v := I (st c t).ph) rfl (fun w hs => (hs.blk hB).cell rfl) rfl rfl rfl rfl ?_
  (repeat refine yo rfl rfl trivial ?_)
  by_cases hp : (st c t).ph = 2
  · obtain ⟨hb1, hb2⟩ := st_ba h.ok hp
    obtain ⟨ob, L, hoad, _, hL, _, hL1, _⟩ := h2.open_ (i := (st c t).ba.toNat) (by omega)
    have hh := h2.hdr
    rw [show ckC g s c = [I s.th, I s.va, I s.vo, I s.lo, .slice g.pad s.pa.length g.pcap, .map (some g.m1), .map (some g.m2), .slice (some ⟨ob, 0, none⟩) c.op.length g.ocap, I c.n] by rw [ckC, hoad]] at hh
    have e1 : (((st c t).ba.toNat : Nat) : Int) = (st c t).ba := by omega
    rw [e1] at hL1
    refine q_is true 3 true rfl rfl rfl (by simp [hp]) ?_
    (repeat refine yo rfl rfl trivial ?_)
    refine q_load (v := I (st c t).ro) rfl (fun w hs => (hs.blk hB).cell rfl) rfl rfl rfl rfl ?_
    (repeat refine yo rfl rfl trivial ?_)
    refine q_load (v := .slice (some ⟨ob, 0, none⟩) c.op.length g.ocap) rfl (fun w hs => (hs.blk hh).cell rfl) rfl rfl rfl rfl ?_
    (repeat refine yo rfl rfl trivial ?_)
    refine q_load (v := I (st c t).ba) rfl (fun w hs => (hs.blk hB).cell rfl) rfl rfl rfl rfl ?_
    (repeat refine yo rfl rfl (by first|exact trivial|(simp only[AllP];omega)) ?_)
    refine q_load (b := ob) (off := (st c t).ba.toNat * 2) (v := I (opAt c (st c t).ba).1) ?_ (fun w hs => (hs.blk hL).cell hL1) rfl rfl rfl rfl ?_
    · show Value.pointer (some ⟨ob, 0 + (st c t).ba.toNat * 2, none⟩) = _
      rw [Nat.zero_add]
    (repeat first|refine yo rfl rfl trivial ?_|refine yn ?_)
    intro w3 hs3
    (repeat refine zr ?_)
    exact ⟨_, rfl, by simp [fullB, hp], k2.trans (hs3.kp [])⟩
  · refine q_is false 3 true rfl rfl rfl (by simp [hp]) ?_
    (repeat first|refine yo rfl rfl trivial ?_|refine yn ?_)
    intro w3 hs3
    (repeat refine zr ?_)
    exact ⟨_, rfl, by simp [fullB, hp], k2.trans (hs3.kp [])⟩
set_option maxHeartbeats 6400000 in
theorem Can_ret (h : CkAt w g s c) (x : Ev) : Ret Tryz.prog 132 [ptr g.p, .agg ⟨evC x⟩] w (fun v w' => v = .bool (canB s c x) ∧ Kp [] w w') := by
  refine enter Tryz.call132 Tryz.func132 rfl rfl rfl rfl ?_
  (repeat first|refine zA ?_|refine zg ?_)
  refine o_box rfl rfl rfl ?_
  intro bx w1 hbx hu1
  have hB1 : Blk w1 bx (evC x) 86 := hu1.blk
  have k1 : Kp [] w w1 := hu1.kp [] (.inr (by omega))
  have h1 := h.kp0 k1
  (repeat first|refine zA ?_|refine zB ?_|refine zg ?_|refine zo rfl rfl trivial ?_|refine zn ?_)
  refine o_call (fnone_ret h1) rfl rfl rfl ?_
  rintro v wx ⟨rfl, rfl⟩
  (repeat first|refine zn ?_|refine zk ?_|refine zf rfl ?_)
  refine r_seq ?_
  refine r_cut (α := Nat) [0, 3, 4, 5] (fun bt => [ptr g.p, ptr bx, .bool false, ptr bt]) (fun bt w' => Kp [] wx w' ∧ Blk w' bt (stdC (st c x.t)) 136) ?_ ?_
  · refine r_mix (fun w' => Kp [] wx w') [(0, false), (1, false), (2, false), (3, false), (4, false), (5, false), (6, false), (7, true), (8, true)] follows_mixed (by kernel_rfl) (by kernel_rfl) (by kernel_rfl) ((Sm.drew wx).kp []) ?_
    have kd := (Sm.drew wx).kp []
    generalize ({ wx with drawn := wx.drawn + 1 } : World) = w2 at kd ⊢
    (repeat refine xo rfl rfl trivial ?_)
    refine x_load (v := .map (some g.m1)) rfl rfl (fun w' h' => (h1.kp0 h').hdr.cell rfl) rfl rfl rfl rfl ?_
    (repeat refine xo rfl rfl trivial ?_)
    refine x_load (v := I x.t) rfl rfl (fun w' h' => (h'.blk (by simp) hB1).cell rfl) rfl rfl rfl rfl ?_
    refine x_lookI (stdV (st c x.t)) rfl rfl rfl (fun w' h' => (h1.kp0 h').mt) (mapT_get c.T x.t) rfl rfl rfl rfl rfl rfl ?_
    refine x_act rfl ?_
    refine o_alloc rfl rfl rfl rfl ?_
    intro bt w3 hbt hu3
    have k3 := kd.trans (hu3.kp [] (.inr (by omega)))
    refine o_nil ⟨.inr k3, ?_⟩
    refine x_act rfl ?_
    refine o_storeA (cs := stdC (st c x.t)) rfl hu3.blk (Nat.le_refl _) rfl (by simp [Value.oneCell']) rfl rfl rfl rfl ?_
    intro w4 hu4
    have z2 := kd.size
    have k4 : Kp [] wx w4 := k3.since (hu4.kp [bt] (.inl (by simp))) (by simp; omega)
    refine o_nil ⟨.inl (by kernel_rfl), ?_⟩
    (repeat refine xn ?_)
    exact ⟨bt, rfl, k4, hu4.blk⟩
  rintro bt e w4 ⟨k4, hBt⟩
  have h4 := h1.kp0 k4
  have hB4 := k4.blk (by simp) hB1
  have kk := k1.trans k4
  (repeat first|refine zA ?_|refine zB ?_|refine zg ?_|refine zo rfl rfl trivial ?_)
  refine o_load (v := I (st c x.t).ph) rfl hBt rfl rfl rfl rfl rfl ?_
  (repeat first|refine zo rfl rfl trivial ?_|refine zn ?_)
  refine r_if (p := (st c x.t).ph = 2) rfl (fun hp2 => ?_) (fun hp2 => ?_)
  · (repeat first|refine zA ?_|refine zg ?_|refine zo rfl rfl trivial ?_)
    refine o_load (v := I x.k) rfl hB4 rfl rfl rfl rfl rfl ?_
    (repeat refine zo rfl rfl trivial ?_)
    by_cases hk : x.k = 10
    · refine o_is true 3 true rfl rfl rfl (by simp [hk]) ?_
      (repeat refine zo rfl rfl trivial ?_)
      refine o_load (v := I x.o) rfl hB4 rfl rfl rfl rfl rfl ?_
      (repeat refine zo rfl rfl trivial ?_)
      refine o_load (v := I (st c x.t).ba) rfl hBt rfl rfl rfl rfl rfl ?_
      (repeat refine zo rfl rfl trivial ?_)
      by_cases ho : x.o = (st c x.t).ba
      · refine o_is true 10 true rfl rfl rfl (by simp [hk, ho]) ?_
        (repeat refine zo rfl rfl trivial ?_)
        refine o_load (v := I x.t) rfl hB4 rfl rfl rfl rfl rfl ?_
        refine o_call (Full_ret h4 x.t) rfl rfl rfl ?_
        rintro v w5 ⟨rfl, k5⟩
        (repeat first|refine zo rfl rfl trivial ?_|refine zn ?_|refine zr ?_)
        exact ⟨_, rfl, by simp [canB, hp2, hk, ho], kk.trans k5⟩
      · refine o_is false 10 true rfl rfl rfl (by simp [hk, ho]) ?_
        (repeat first|refine zo rfl rfl trivial ?_|refine zn ?_|refine zr ?_)
        exact ⟨_, rfl, by simp [canB, hp2, hk, ho], kk⟩
    · refine o_is false 3 true rfl rfl rfl (by simp [hk]) ?_
      (repeat first|refine zo rfl rfl trivial ?_|refine zn ?_|refine zr ?_|refine zU rfl rfl rfl ?_)
      exact ⟨_, rfl, by simp [canB, hp2, hk], kk⟩
  (repeat first|refine zA ?_|refine zB ?_|refine zg ?_|refine zo rfl rfl trivial ?_|refine zk ?_)
  refine o_load (v := I (st c x.t).ph) rfl hBt rfl rfl rfl rfl rfl ?_
  (repeat refine zo rfl rfl trivial ?_)
  by_cases hp1 : (st c x.t).ph = 1
  rotate_left
  · refine o_is true 3 false rfl rfl rfl (by simp [hp1]) ?_
    (repeat first|refine zA ?_|refine zg ?_|refine zo rfl rfl trivial ?_|refine zn ?_|refine zr ?_|refine zt rfl ?_)
    exact ⟨_, rfl, by simp [canB, hp2, hp1], kk⟩
  refine o_is false 3 false rfl rfl rfl (by simp [hp1]) ?_
  (repeat refine zo rfl rfl trivial ?_)
  refine o_load (v := I x.o) rfl hB4 rfl rfl rfl rfl rfl ?_
  (repeat first|refine zo rfl rfl trivial ?_|refine zn ?_)
  refine r_if (p := x.o < 0) rfl (fun ho => ?_) (fun ho => ?_)
  · (repeat first|refine zA ?_|refine zg ?_|refine zo rfl rfl trivial ?_|refine zn ?_|refine zr ?_)
    exact ⟨_, rfl, by simp [canB, hp2, hp1, ho], kk⟩
  (repeat refine zk ?_)
  refine r_seq ?_
  refine r_quietS follows_mixed (by kernel_rfl) ?_
  (repeat refine yo rfl rfl trivial ?_)
  refine q_load (v := .map (some g.m2)) rfl (fun w hs => (hs.blk h4.hdr).cell rfl) rfl rfl rfl rfl ?_
  (repeat refine yo rfl rfl trivial ?_)
  refine q_load (v := I x.o) rfl (fun w hs => (hs.blk hB4).cell rfl) rfl rfl rfl rfl ?_
  refine q_lookI2 (.tuple #[I ((c.O x.o).getD 0), .bool (c.O x.o).isSome]) rfl rfl (fun w hs => (h4.sm hs).mo) (by unfold mapO; cases c.O x.o <;> rfl) rfl rfl rfl rfl rfl rfl ?_
  (repeat first|refine yo rfl rfl trivial ?_|refine yn ?_)
  intro w5 hs5
  have h5 := h4.sm hs5
  have kk5 := kk.trans (hs5.kp [])
  have hB5 := hs5.blk hB4
  have hlt5 : w.heap.size ≤ bx := by omega
  refine r_seq ?_
  refine r_cut (α := Nat) [0, 3, 4, 6, 7, 8] (fun bt => [ptr g.p, ptr bx, .bool false, I ((c.O x.o).getD 0), .bool (c.O x.o).isSome, ptr bt]) (fun bt w' => Kp [] w5 w' ∧ Blk w' bt (stdC (st c x.o)) 136) ?_ ?_
  · refine r_mix (fun w' => Kp [] w5 w') [(0, false), (1, false), (2, false), (3, false), (4, false), (5, false), (6, false), (7, true), (8, true)] follows_mixed (by kernel_rfl) (by kernel_rfl) (by kernel_rfl) ((Sm.drew w5).kp []) ?_
    have kd := (Sm.drew w5).kp []
    generalize ({ w5 with drawn := w5.drawn + 1 } : World) = w6 at kd ⊢
    (repeat refine xo rfl rfl trivial ?_)
    refine x_load (v := .map (some g.m1)) rfl rfl (fun w' h' => (h5.kp0 h').hdr.cell rfl) rfl rfl rfl rfl ?_
    (repeat refine xo rfl rfl trivial ?_)
    refine x_load (v := I x.o) rfl rfl (fun w' h' => (h'.blk (by simp) hB5).cell rfl) rfl rfl rfl rfl ?_
    refine x_lookI (stdV (st c x.o)) rfl rfl rfl (fun w' h' => (h5.kp0 h').mt) (mapT_get c.T x.o) rfl rfl rfl rfl rfl rfl ?_
    refine x_act rfl ?_
    refine o_alloc rfl rfl rfl rfl ?_
    intro bo w7 hbo hu7
    have k7 := kd.trans (hu7.kp [] (.inr (by omega)))
    refine o_nil ⟨.inr k7, ?_⟩
    refine x_act rfl ?_
    refine o_storeA (cs := stdC (st c x.o)) rfl hu7.blk (Nat.le_refl _) rfl (by simp [Value.oneCell']) rfl rfl rfl rfl ?_
    intro w8 hu8
    have z6 := kd.size
    have k8 : Kp [] w5 w8 := k7.since (hu8.kp [bo] (.inl (by simp))) (by simp; omega)
    refine o_nil ⟨.inl (by kernel_rfl), ?_⟩
    (repeat refine xn ?_)
    exact ⟨bo, rfl, k8, hu8.blk⟩
  rintro bo e w8 ⟨k8, hBo⟩
  have h8 := h5.kp0 k8
  have hB8 := k8.blk (by simp) hB5
  have kk8 := kk5.trans k8
  have e0 : canB s c x = (if x.k = 2 then decide (x.o < s.va)
    else if x.k = 1 then decide (x.o < s.va)
    else if x.k = 4 then decide (x.o < s.vo)
    else if x.k = 3 then decide (x.o < s.vo)
    else if x.k = 6 then (if c.O x.o = some x.t then decide (x.o < s.lo) else false)
    else if x.k = 5 then (if c.O x.o = none then decide (x.o < s.lo) else false)
    else if x.k = 7 then (if (st c x.o).ph = 0 then decide (x.o < s.th) else false)
    else if x.k = 8 then (if (st c x.o).ph = 3 then decide (x.o < s.th) else false)
    else if x.k = 9 then decide (x.o < c.op.length)
    else if x.k = 11 then decide (x.o < 1)
    else false) := by
    unfold canB
    rw [if_neg hp2, if_neg (by omega), if_neg ho]
  (repeat first|refine zA ?_|refine zB ?_|refine zg ?_|refine zo rfl rfl trivial ?_|refine zn ?_)
  refine o_load (v := I x.k) rfl hB8 rfl rfl rfl rfl rfl ?_
  (repeat first|refine zC ?_|refine zn ?_|refine zb ?_)

  refine r_seq ?_
  (repeat first|refine zA ?_|refine zB ?_|refine zg ?_|refine zo rfl rfl trivial ?_|refine zn ?_)
  refine r_if (p := x.k = 2) rfl (fun hk2 => ?_) (fun hk2 => ?_)
  · (repeat first|refine zA ?_|refine zg ?_|refine zo rfl rfl trivial ?_|refine ze rfl ?_)
    refine o_load (v := I s.va) rfl h8.hdr rfl rfl rfl rfl rfl ?_
    (repeat first|refine zA ?_|refine zg ?_|refine zo rfl rfl trivial ?_|refine zn ?_|refine ze rfl ?_)
    refine o_load (v := I x.o) rfl hB8 rfl rfl rfl rfl rfl ?_
    (repeat first|refine zo rfl rfl trivial ?_|refine zn ?_|refine zr ?_)
    exact ⟨_, rfl, by rw [e0, if_pos hk2], kk8⟩
  (repeat first|refine zA ?_|refine zB ?_|refine zg ?_|refine zo rfl rfl trivial ?_|refine zn ?_|refine zk ?_)
  refine r_if (p := x.k = 1) rfl (fun hk1 => ?_) (fun hk1 => ?_)
  · (repeat first|refine zA ?_|refine zg ?_|refine zo rfl rfl trivial ?_|refine ze rfl ?_)
    refine o_load (v := I s.va) rfl h8.hdr rfl rfl rfl rfl rfl ?_
    (repeat first|refine zA ?_|refine zg ?_|refine zo rfl rfl trivial ?_|refine zn ?_|refine ze rfl ?_)
    refine o_load (v := I x.o) rfl hB8 rfl rfl rfl rfl rfl ?_
    (repeat first|refine zo rfl rfl trivial ?_|refine zn ?_|refine zr ?_)
    exact ⟨_, rfl, by rw [e0, if_neg hk2, if_pos hk1], kk8⟩
  (repeat first|refine zA ?_|refine zB ?_|refine zg ?_|refine zo rfl rfl trivial ?_|refine zn ?_|refine zk ?_)
  refine r_if (p := x.k = 4) rfl (fun hk4 => ?_) (fun hk4 => ?_)
  · (repeat first|refine zA ?_|refine zg ?_|refine zo rfl rfl trivial ?_|refine ze rfl ?_)
    refine o_load (v := I s.vo) rfl h8.hdr rfl rfl rfl rfl rfl ?_
    (repeat first|refine zA ?_|refine zg ?_|refine zo rfl rfl trivial ?_|refine zn ?_|refine ze rfl ?_)
    refine o_load (v := I x.o) rfl hB8 rfl rfl rfl rfl rfl ?_
    (repeat first|refine zo rfl rfl trivial ?_|refine zn ?_|refine zr ?_)
    exact ⟨_, rfl, by rw [e0, if_neg hk2, if_neg hk1, if_pos hk4], kk8⟩
  (repeat first|refine zA ?_|refine zB ?_|refine zg ?_|refine zo rfl rfl trivial ?_|refine zn ?_|refine zk ?_)
  refine r_if (p := x.k = 3) rfl (fun hk3 => ?_) (fun hk3 => ?_)
  · (repeat first|refine zA ?_|refine zg ?_|refine zo rfl rfl trivial ?_|refine ze rfl ?_)
    refine o_load (v := I s.vo) rfl h8.hdr rfl rfl rfl rfl rfl ?_
    (repeat first|refine zA ?_|refine zg ?_|refine zo rfl rfl trivial ?_|refine zn ?_|refine ze rfl ?_)
    refine o_load (v := I x.o) rfl hB8 rfl rfl rfl rfl rfl ?_
    (repeat first|refine zo rfl rfl trivial ?_|refine zn ?_|refine zr ?_)
    exact ⟨_, rfl, by rw [e0, if_neg hk2, if_neg hk1, if_neg hk4, if_pos hk3], kk8⟩
  (repeat first|refine zA ?_|refine zB ?_|refine zg ?_|refine zo rfl rfl trivial ?_|refine zn ?_|refine zk ?_)
  refine r_if (p := x.k = 6) rfl (fun hk6 => ?_) (fun hk6 => ?_)
  · (repeat refine ze rfl ?_)
    refine r_seq ?_
    (repeat first|refine zA ?_|refine zB ?_|refine zg ?_|refine zo rfl rfl trivial ?_)
    cases hO : c.O x.o with
    | none =>
      simp only [Option.isSome_none, Option.getD_none]
      (repeat first|refine zA ?_|refine zg ?_|refine zo rfl rfl trivial ?_|refine zn ?_|refine zr ?_|refine zT rfl rfl rfl ?_|refine zt rfl ?_)
      exact ⟨_, rfl, by rw [e0, if_neg hk2, if_neg hk1, if_neg hk4, if_neg hk3, if_pos hk6, hO, if_neg (by simp)], kk8⟩
    | some ow =>
      simp only [Option.isSome_some, Option.getD_some]
      (repeat first|refine zo rfl rfl trivial ?_|refine zU rfl rfl rfl ?_)
      refine o_load (v := I x.t) rfl hB8 rfl rfl rfl rfl rfl ?_
      (repeat first|refine zo rfl rfl trivial ?_|refine zn ?_)
      by_cases how : ow = x.t
      · refine r_no rfl (by simp [how]) ?_
        (repeat first|refine zg ?_|refine zo rfl rfl trivial ?_|refine zk ?_)
        refine o_load (v := I s.lo) rfl h8.hdr rfl rfl rfl rfl rfl ?_
        (repeat first|refine zA ?_|refine zg ?_|refine zo rfl rfl trivial ?_|refine zn ?_|refine ze rfl ?_)
        refine o_load (v := I x.o) rfl hB8 rfl rfl rfl rfl rfl ?_
        (repeat first|refine zo rfl rfl trivial ?_|refine zn ?_|refine zr ?_)
        exact ⟨_, rfl, by rw [e0, if_neg hk2, if_neg hk1, if_neg hk4, if_neg hk3, if_pos hk6, hO, if_pos (by rw [how])], kk8⟩
      · refine r_yes rfl (by simp [how]) ?_
        (repeat first|refine zA ?_|refine zg ?_|refine zo rfl rfl trivial ?_|refine zn ?_|refine zr ?_)
        exact ⟨_, rfl, by rw [e0, if_neg hk2, if_neg hk1, if_neg hk4, if_neg hk3, if_pos hk6, hO, if_neg (by simpa using how)], kk8⟩
  (repeat first|refine zA ?_|refine zB ?_|refine zg ?_|refine zo rfl rfl trivial ?_|refine zn ?_|refine zk ?_)
  refine r_if (p := x.k = 5) rfl (fun hk5 => ?_) (fun hk5 => ?_)
  · (repeat refine ze rfl ?_)
    refine r_seq ?_
    (repeat first|refine zA ?_|refine zB ?_|refine zg ?_|refine zo rfl rfl trivial ?_|refine zn ?_)
    cases hO : c.O x.o with
    | none =>
      simp only [Option.isSome_none, Option.getD_none]
      (repeat first|refine zg ?_|refine zo rfl rfl trivial ?_|refine zk ?_|refine zf rfl ?_)
      refine o_load (v := I s.lo) rfl h8.hdr rfl rfl rfl rfl rfl ?_
      (repeat first|refine zA ?_|refine zg ?_|refine zo rfl rfl trivial ?_|refine zn ?_|refine ze rfl ?_)
      refine o_load (v := I x.o) rfl hB8 rfl rfl rfl rfl rfl ?_
      (repeat first|refine zo rfl rfl trivial ?_|refine zn ?_|refine zr ?_)
      exact ⟨_, rfl, by rw [e0, if_neg hk2, if_neg hk1, if_neg hk4, if_neg hk3, if_neg hk6, if_pos hk5, hO, if_pos rfl], kk8⟩
    | some ow =>
      simp only [Option.isSome_some, Option.getD_some]
      (repeat first|refine zA ?_|refine zg ?_|refine zo rfl rfl trivial ?_|refine zn ?_|refine zr ?_|refine zt rfl ?_)
      exact ⟨_, rfl, by rw [e0, if_neg hk2, if_neg hk1, if_neg hk4, if_neg hk3, if_neg hk6, if_pos hk5, hO, if_neg (by simp)], kk8⟩
  (repeat first|refine zA ?_|refine zB ?_|refine zg ?_|refine zo rfl rfl trivial ?_|refine zn ?_|refine zk ?_)
  refine r_if (p := x.k = 7) rfl (fun hk7 => ?_) (fun hk7 => ?_)
  · (repeat refine ze rfl ?_)
    refine r_seq ?_
    (repeat first|refine zA ?_|refine zB ?_|refine zg ?_|refine zo rfl rfl trivial ?_)
    refine o_load (v := I (st c x.o).ph) rfl hBo rfl rfl rfl rfl rfl ?_
    (repeat first|refine zo rfl rfl trivial ?_|refine zn ?_)
    by_cases hq : (st c x.o).ph = 0
    · refine r_no rfl (by simp [hq]) ?_
      (repeat first|refine zg ?_|refine zo rfl rfl trivial ?_|refine zk ?_)
      refine o_load (v := I s.th) rfl h8.hdr rfl rfl rfl rfl rfl ?_
      (repeat first|refine zA ?_|refine zg ?_|refine zo rfl rfl trivial ?_|refine zn ?_|refine ze rfl ?_)
      refine o_load (v := I x.o) rfl hB8 rfl rfl rfl rfl rfl ?_
      (repeat first|refine zo rfl rfl trivial ?_|refine zn ?_|refine zr ?_)
      exact ⟨_, rfl, by rw [e0, if_neg hk2, if_neg hk1, if_neg hk4, if_neg hk3, if_neg hk6, if_neg hk5, if_pos hk7, if_pos hq], kk8⟩
    · refine r_yes rfl (by simp [hq]) ?_
      (repeat first|refine zA ?_|refine zg ?_|refine zo rfl rfl trivial ?_|refine zn ?_|refine zr ?_)
      exact ⟨_, rfl, by rw [e0, if_neg hk2, if_neg hk1, if_neg hk4, if_neg hk3, if_neg hk6, if_neg hk5, if_pos hk7, if_neg hq], kk8⟩
  (repeat first|refine zA ?_|refine zB ?_|refine zg ?_|refine zo rfl rfl trivial ?_|refine zn ?_|refine zk ?_)
  refine r_if (p := x.k = 8) rfl (fun hk8 => ?_) (fun hk8 => ?_)
  · (repeat refine ze rfl ?_)
    refine r_seq ?_
    (repeat first|refine zA ?_|refine zB ?_|refine zg ?_|refine zo rfl rfl trivial ?_)
    refine o_load (v := I (st c x.o).ph) rfl hBo rfl rfl rfl rfl rfl ?_
    (repeat first|refine zo rfl rfl trivial ?_|refine zn ?_)
    by_cases hq : (st c x.o).ph = 3
    · refine r_no rfl (by simp [hq]) ?_
      (repeat first|refine zg ?_|refine zo rfl rfl trivial ?_|refine zk ?_)
      refine o_load (v := I s.th) rfl h8.hdr rfl rfl rfl rfl rfl ?_
      (repeat first|refine zA ?_|refine zg ?_|refine zo rfl rfl trivial ?_|refine zn ?_|refine ze rfl ?_)
      refine o_load (v := I x.o) rfl hB8 rfl rfl rfl rfl rfl ?_
      (repeat first|refine zo rfl rfl trivial ?_|refine zn ?_|refine zr ?_)
      exact ⟨_, rfl, by rw [e0, if_neg hk2, if_neg hk1, if_neg hk4, if_neg hk3, if_neg hk6, if_neg hk5, if_neg hk7, if_pos hk8, if_pos hq], kk8⟩
    · refine r_yes rfl (by simp [hq]) ?_
      (repeat first|refine zA ?_|refine zg ?_|refine zo rfl rfl trivial ?_|refine zn ?_|refine zr ?_)
      exact ⟨_, rfl, by rw [e0, if_neg hk2, if_neg hk1, if_neg hk4, if_neg hk3, if_neg hk6, if_neg hk5, if_neg hk7, if_pos hk8, if_neg hq], kk8⟩
  (repeat first|refine zA ?_|refine zB ?_|refine zg ?_|refine zo rfl rfl trivial ?_|refine zn ?_|refine zk ?_)
  refine r_if (p := x.k = 9) rfl (fun hk9 => ?_) (fun hk9 => ?_)
  · (repeat first|refine zA ?_|refine zg ?_|refine zo rfl rfl trivial ?_|refine ze rfl ?_)
    refine o_load (v := .slice g.oad c.op.length g.ocap) rfl h8.hdr rfl rfl rfl rfl rfl ?_
    (repeat first|refine zA ?_|refine zg ?_|refine zo rfl rfl trivial ?_|refine zn ?_|refine ze rfl ?_)
    refine o_load (v := I x.o) rfl hB8 rfl rfl rfl rfl rfl ?_
    (repeat first|refine zo rfl rfl trivial ?_|refine zn ?_|refine zr ?_)
    exact ⟨_, rfl, by rw [e0, if_neg hk2, if_neg hk1, if_neg hk4, if_neg hk3, if_neg hk6, if_neg hk5, if_neg hk7, if_neg hk8, if_pos hk9], kk8⟩
  (repeat first|refine zA ?_|refine zg ?_|refine zo rfl rfl trivial ?_|refine zn ?_|refine zk ?_)
  refine r_if (p := x.k = 11) rfl (fun hk11 => ?_) (fun hk11 => ?_)
  · (repeat first|refine zA ?_|refine zg ?_|refine zo rfl rfl trivial ?_|refine zn ?_|refine ze rfl ?_)
    refine o_load (v := I x.o) rfl hB8 rfl rfl rfl rfl rfl ?_
    (repeat first|refine zo rfl rfl trivial ?_|refine zn ?_|refine zr ?_)
    exact ⟨_, rfl, by rw [e0, if_neg hk2, if_neg hk1, if_neg hk4, if_neg hk3, if_neg hk6, if_neg hk5, if_neg hk7, if_neg hk8, if_neg hk9, if_pos hk11], kk8⟩
  (repeat first|refine zA ?_|refine zg ?_|refine zo rfl rfl trivial ?_|refine ze rfl ?_|refine zk ?_)
  refine o_load (v := I x.o) rfl hB8 rfl rfl rfl rfl rfl ?_
  (repeat first|refine zo rfl rfl trivial ?_|refine zn ?_|refine zr ?_)
  exact ⟨_, rfl, by rw [e0, if_neg hk2, if_neg hk1, if_neg hk4, if_neg hk3, if_neg hk6, if_neg hk5, if_neg hk7, if_neg hk8, if_neg hk9, if_neg hk11]; simp; omega, kk8⟩
end
end Go.Vc
/- rows of events. -/
namespace Go.Vc
open Go Go.Proofs
def evsC (l : List Ev) : List Value := l.flatMap evC
theorem evsC_len (l : List Ev) : (evsC l).length = l.length * 3 := by
  induction l with
  | nil => rfl
  | cons x r ih => unfold evsC at *; rw [List.flatMap_cons, List.length_append, ih]; simp [evC]; omega
theorem evsC_get : ∀ {l : List Ev} {i : Nat} {x : Ev}, l[i]? = some x → ∀ j v, (evC x)[j]? = some v → (evsC l)[i * 3 + j]? = some v
  | [], i, x, h, _, _, _ => by simp at h
  | y :: r, 0, x, h, j, v, hv => by
    simp at h; subst h
    have e1 : evsC (y :: r) = evC y ++ evsC r := by simp [evsC]
    rw [e1, Nat.zero_mul, Nat.zero_add, List.getElem?_append_left ((List.getElem?_eq_some_iff.1 hv).1)]
    exact hv
  | y :: r, i + 1, x, h, j, v, hv => by
    have ih := evsC_get (l := r) (i := i) (x := x) (by simpa using h) j v hv
    have e1 : evsC (y :: r) = evC y ++ evsC r := by simp [evsC]
    have l3 : (evC y).length = 3 := rfl
    rw [e1, List.getElem?_append_right (by omega)]
    have e2 : (i + 1) * 3 + j - (evC y).length = i * 3 + j := by omega
    rw [e2]; exact ih
end Go.Vc
