/- Query: the machine's parts: truth, part, race, pair. -/
import Derived.Test.YtkgngbpkiklckaaGreatDoorQClQAlike24
import Derived.Test.YtkgngbpkiklckaaGreatDoorQClQAlike33
import Derived.Test.YtkgngbpkiklckaaGreatDoorQClQAlike34
namespace Go.Vc
open Go Go.Proofs
set_option maxRecDepth 10000
section
variable {P : Program} {n : Nat} {w : World} {e : Env} {K : EPost} {all : List Oper} {G : List Nat} {ro : Ro} {dst : Option Tmp} {ty : TypeId} {pos : String} {after : Array Edge} {g : Option (Nat × Bool)} {l : List Oper} {t : TypeId} {x y : Operand}
/-- one plain operation alone -/
theorem o_pure1 {op : Op} {v : Value} (hp : pureOp P e op = some (none, v)) (hd : dOk n dst = true) (hm : may all G e g = some true) (k : Ops ro P n all G K l (put e dst v) w) : Ops ro P n all G K (⟨dst, op, ty, pos, after, g⟩ :: l) e w :=
  ops_does (o := ⟨dst, op, ty, pos, after, g⟩) hd hm (pureOp_sound hp trivial) k
/-- sums that may go round -/
theorem o_addW {yt : TypeId} {a b : Int} (hx : ev e x = I a) (hy : ev e y = I b) (hd : dOk n dst = true) (hm : may all G e g = some true) (k : Ops ro P n all G K l (put e dst (I (IntKind.i64.wrap (a + b)))) w) : Ops ro P n all G K (⟨dst, .binOp .add t x y yt, ty, pos, after, g⟩ :: l) e w := by
  refine ops_does hd hm ?_ k
  simp [execOp, hx, hy, eqGuard, binOp, Op.intArith]
theorem o_subW {yt : TypeId} {a b : Int} (hx : ev e x = I a) (hy : ev e y = I b) (hd : dOk n dst = true) (hm : may all G e g = some true) (k : Ops ro P n all G K l (put e dst (I (IntKind.i64.wrap (a - b)))) w) : Ops ro P n all G K (⟨dst, .binOp .sub t x y yt, ty, pos, after, g⟩ :: l) e w := by
  refine ops_does hd hm ?_ k
  simp [execOp, hx, hy, eqGuard, binOp, Op.intArith]
theorem o_mulW {yt : TypeId} {a b : Int} (hx : ev e x = I a) (hy : ev e y = I b) (hd : dOk n dst = true) (hm : may all G e g = some true) (k : Ops ro P n all G K l (put e dst (I (IntKind.i64.wrap (a * b)))) w) : Ops ro P n all G K (⟨dst, .binOp .mul t x y yt, ty, pos, after, g⟩ :: l) e w := by
  refine ops_does hd hm ?_ k
  simp [execOp, hx, hy, eqGuard, binOp, Op.intArith]
theorem o_negW {a : Int} (hx : ev e x = I a) (hd : dOk n dst = true) (hm : may all G e g = some true) (k : Ops ro P n all G K l (put e dst (I (IntKind.i64.wrap (0 - a)))) w) : Ops ro P n all G K (⟨dst, .unOp .neg t x, ty, pos, after, g⟩ :: l) e w := by
  refine ops_does hd hm ?_ k
  simp [execOp, hx, Op.unary, Op.intArith]
end
variable {w : World}
/-- what an event has -/
def partQ (E : List Ev) (op n : Int) : Int := if op = 9 then (evI E n).k else if 0 ≤ n ∧ n < E.length then (if op = 8 then (evI E n).t else (evI E n).o) else -1
def accQ (k : Int) : Bool := decide (k = 1) || decide (k = 2)
/-- do two events race? -/
noncomputable def raceQ (E : List Ev) (R : List Int) (x y : Int) : Bool :=
  decide (0 ≤ x ∧ x < E.length) && decide (0 ≤ y ∧ y < E.length) && asideB E R x y && accQ (evI E x).k && accQ (evI E y).k && decide ((evI E x).o = (evI E y).o) && !decide ((evI E x).t = (evI E y).t) && (decide ((evI E x).k = 2) || decide ((evI E y).k = 2))
/-- what questions are asked of -/
noncomputable def qwO (E : List Ev) (R : List Int) : QW := ⟨E.length, partQ E, befI E R, raceQ E R⟩
/-- the machine: its block, its map of names, the order -/
structure MG where
  p : Nat
  mm : Nat
  og : OrG
  E : List Ev
  R : List Int
  fuel : Nat
def MG.F (g : MG) : List Nat := [g.p, g.mm]
structure MG.Ok (g : MG) : Prop where
  ne : g.p ≠ g.mm
  op : ∀ b ∈ g.og.F, b ∉ g.F
  fu : g.fuel ≤ 67108864
structure MAt (w : World) (g : MG) (f : List UInt8 → Option Int) (s : Nat) : Prop where
  hdr : Blk w g.p [ptr g.og.p, .map (some g.mm), I s, I g.fuel] 114
  map : MapT w g.mm (fun k => (f k).map fun x => I x)
  ord : OrAt w g.og g.E g.R
theorem MAt.kp {w' : World} {S' : List Nat} {g : MG} {f : List UInt8 → Option Int} {s : Nat} (h : MAt w g f s) (hk : Kp S' w w') (h1 : ∀ b ∈ S', b ∉ g.F) (h2 : ∀ b ∈ S', b ∉ g.og.F) : MAt w' g f s :=
  ⟨hk.blk (fun hb => h1 _ hb (by simp [MG.F])) h.hdr, h.map.kp hk (fun hb => h1 _ hb (by simp [MG.F])), h.ord.kp hk (fun b hb hS => h2 b hS hb)⟩
theorem MAt.kp0 {w' : World} {g : MG} {f : List UInt8 → Option Int} {s : Nat} (h : MAt w g f s) (hk : Kp [] w w') : MAt w' g f s := h.kp hk (by simp) (by simp)
theorem truth_ret (b : Bool) : Ret Tryz.prog 169 [.bool b] w (fun v w' => v = I (trI b) ∧ w' = w) := by
  refine enter Tryz.call169 Tryz.func169 rfl rfl rfl rfl ?_
  (repeat first|refine zA ?_|refine zB ?_|refine zg ?_|refine zo rfl rfl trivial ?_|refine zn ?_)
  refine r_cond rfl (fun h => ?_) (fun h => ?_)
  · subst h
    (repeat first|refine zA ?_|refine zg ?_|refine zo rfl rfl trivial ?_|refine zn ?_|refine zr ?_)
    exact ⟨_, rfl, rfl, rfl⟩
  · subst h
    (repeat first|refine zA ?_|refine zg ?_|refine zo rfl rfl trivial ?_|refine zn ?_|refine zr ?_|refine zk ?_)
    exact ⟨_, rfl, rfl, rfl⟩
theorem acc_ret (k : Int) : Ret Tryz.prog 198 [I k] w (fun v w' => v = .bool (accQ k) ∧ w' = w) := by
  refine enter Tryz.call198 Tryz.func198 rfl rfl rfl rfl ?_
  (repeat first|refine zA ?_|refine zg ?_|refine zo rfl rfl trivial ?_|refine zn ?_)
  refine o_split _ _ rfl rfl rfl (fun h => ?_) (fun h => ?_)
  · (repeat first|refine zo rfl rfl trivial ?_|refine zn ?_|refine zr ?_)
    exact ⟨_, rfl, by unfold accQ; rw [h]; rfl, rfl⟩
  · (repeat first|refine zo rfl rfl trivial ?_|refine zn ?_|refine zr ?_)
    exact ⟨_, rfl, by unfold accQ; rw [h]; rfl, rfl⟩
theorem part_ret {g : MG} {f : List UInt8 → Option Int} {s : Nat} (h : MAt w g f s) (op n : Int) : Ret Tryz.prog 172 [ptr g.p, I op, I n] w (fun v w' => v = I (partQ g.E op n) ∧ Kp [] w w') := by
  have hB := h.hdr
  refine enter Tryz.call172 Tryz.func172 rfl rfl rfl rfl ?_
  (repeat first|refine zA ?_|refine zg ?_|refine zo rfl rfl trivial ?_|refine zn ?_|refine o_load rfl hB rfl rfl rfl rfl rfl ?_)
  refine o_call (oEvent_ret h.ord.toOrB n) rfl rfl rfl ?_
  rintro v w1 ⟨rfl, k1⟩
  (repeat refine zo rfl rfl trivial ?_)
  refine o_alloc rfl rfl rfl rfl ?_
  intro b w2 hb hu2
  refine o_storeA (b := b) (cs := evC (evI g.E n)) rfl hu2.blk (Nat.le_refl _) rfl (by simp [Value.oneCell', evC]) rfl rfl rfl rfl ?_
  intro w3 hu3
  have hb3 : Blk w3 b (evC (evI g.E n)) 86 := hu3.blk
  have k3 : Kp [] w w3 := k1.trans ((hu2.kp [] (.inr (by omega))).since (hu3.kp [b] (.inl (by simp))) (by simp; omega))
  unfold partQ
  (repeat first|refine zA ?_|refine zC ?_|refine zg ?_|refine zo rfl rfl trivial ?_|refine zn ?_|refine zb ?_)
  refine r_if rfl (fun h9 => ?_) (fun h9 => ?_)
  · rw [if_pos h9]
    (repeat first|refine zA ?_|refine zg ?_|refine zo rfl rfl trivial ?_|refine zn ?_|refine zr ?_|refine o_load rfl hb3 rfl rfl rfl rfl rfl ?_)
    exact ⟨_, rfl, rfl, k3⟩
  rw [if_neg h9]
  (repeat first|refine zA ?_|refine zg ?_|refine zo rfl rfl trivial ?_|refine zn ?_)
  refine r_ifn rfl (fun hin => ?_) (fun hin => ?_)
  · rw [if_neg hin]
    (repeat first|refine zA ?_|refine zg ?_|refine zo rfl rfl trivial ?_|refine zn ?_|refine zr ?_)
    exact ⟨_, rfl, rfl, k3⟩
  rw [if_pos hin]
  (repeat first|refine zA ?_|refine zg ?_|refine zo rfl rfl trivial ?_|refine zn ?_)
  refine r_if rfl (fun h8 => ?_) (fun h8 => ?_)
  · rw [if_pos h8]
    (repeat first|refine zA ?_|refine zg ?_|refine zo rfl rfl trivial ?_|refine zn ?_|refine zr ?_|refine o_load rfl hb3 rfl rfl rfl rfl rfl ?_)
    exact ⟨_, rfl, rfl, k3⟩
  · rw [if_neg h8]
    (repeat first|refine zA ?_|refine zg ?_|refine zo rfl rfl trivial ?_|refine zn ?_|refine zr ?_|refine zk ?_|refine o_load rfl hb3 rfl rfl rfl rfl rfl ?_)
    exact ⟨_, rfl, rfl, k3⟩
set_option maxHeartbeats 6400000 in
theorem race_ret {g : MG} {f : List UInt8 → Option Int} {s : Nat} (h : MAt w g f s) (x y : Int) : Ret Tryz.prog 189 [ptr g.p, I x, I y] w (fun v w' => v = .bool (raceQ g.E g.R x y) ∧ Kp [] w w') := by
  have hB := h.hdr
  refine enter Tryz.call189 Tryz.func189 rfl rfl rfl rfl ?_
  (repeat first|refine zA ?_|refine zg ?_|refine zo rfl rfl trivial ?_|refine zn ?_|refine o_load rfl hB rfl rfl rfl rfl rfl ?_)
  refine o_call (oEvent_ret h.ord.toOrB x) rfl rfl rfl ?_
  rintro v w1 ⟨rfl, k1⟩
  (repeat refine zo rfl rfl trivial ?_)
  refine o_alloc rfl rfl rfl rfl ?_
  intro b w2 hb hu2
  refine o_storeA (b := b) (cs := evC (evI g.E x)) rfl hu2.blk (Nat.le_refl _) rfl (by simp [Value.oneCell', evC]) rfl rfl rfl rfl ?_
  intro w3 hu3
  have hb3 : Blk w3 b (evC (evI g.E x)) 86 := hu3.blk
  have k3 : Kp [] w w3 := k1.trans ((hu2.kp [] (.inr (by omega))).since (hu3.kp [b] (.inl (by simp))) (by simp; omega))
  clear hu2 hu3
  have hB3 := k3.blk (by simp) hB
  (repeat first|refine zA ?_|refine zg ?_|refine zo rfl rfl trivial ?_|refine zn ?_|refine o_load rfl hB3 rfl rfl rfl rfl rfl ?_)
  refine o_call (oEvent_ret (h.kp0 k3).ord.toOrB y) rfl rfl rfl ?_
  rintro v w4 ⟨rfl, k4⟩
  (repeat refine zo rfl rfl trivial ?_)
  refine o_alloc rfl rfl rfl rfl ?_
  intro d w5 hd hu5
  refine o_storeA (b := d) (cs := evC (evI g.E y)) rfl hu5.blk (Nat.le_refl _) rfl (by simp [Value.oneCell', evC]) rfl rfl rfl rfl ?_
  intro w6 hu6
  have hd6 : Blk w6 d (evC (evI g.E y)) 86 := hu6.blk
  have k46 : Kp [] w3 w6 := k4.trans ((hu5.kp [] (.inr (by omega))).since (hu6.kp [d] (.inl (by simp))) (by simp; omega))
  clear hu5 hu6
  have hb6 := k46.blk (by simp) hb3
  have k6 := k3.trans k46
  have hB6 := k6.blk (by simp) hB
  have hM6 := h.kp0 k6
  unfold raceQ
  generalize hia : decide (0 ≤ x ∧ x < (g.E.length : Int)) = ia
  generalize hib : decide (0 ≤ y ∧ y < (g.E.length : Int)) = ib
  generalize evI g.E x = ea at hb6 ⊢
  generalize evI g.E y = eb at hd6 ⊢
  (repeat first|refine zA ?_|refine zg ?_|refine zo rfl rfl trivial ?_|refine zn ?_)
  refine o_split _ _ rfl rfl rfl (fun h1 => ?_) (fun h1 => ?_)
  rotate_left
  · subst h1
    (repeat first|refine zo rfl rfl trivial ?_|refine zn ?_|refine zr ?_|refine zU rfl rfl rfl ?_|refine zV rfl rfl rfl ?_)
    exact ⟨_, rfl, by simp, k6⟩
  subst h1
  (repeat refine zo rfl rfl trivial ?_)
  refine o_split _ _ rfl rfl rfl (fun h1 => ?_) (fun h1 => ?_)
  rotate_left
  · subst h1
    (repeat first|refine zo rfl rfl trivial ?_|refine zn ?_|refine zr ?_|refine zU rfl rfl rfl ?_|refine zV rfl rfl rfl ?_)
    exact ⟨_, rfl, by simp, k6⟩
  subst h1
  (repeat first|refine zo rfl rfl trivial ?_|refine o_load rfl hB6 rfl rfl rfl rfl rfl ?_)
  refine o_call (oAside_ret hM6.ord x y) rfl rfl rfl ?_
  rintro v w7 ⟨rfl, k7⟩
  have k07 := k6.trans k7
  have hb7 := k7.blk (by simp) hb6
  have hd7 := k7.blk (by simp) hd6
  generalize asideB g.E g.R x y = ic
  (repeat refine zo rfl rfl trivial ?_)
  refine o_split _ _ rfl rfl rfl (fun h1 => ?_) (fun h1 => ?_)
  rotate_left
  · subst h1
    (repeat first|refine zo rfl rfl trivial ?_|refine zn ?_|refine zr ?_|refine zU rfl rfl rfl ?_|refine zV rfl rfl rfl ?_)
    exact ⟨_, rfl, by simp, k07⟩
  subst h1
  (repeat first|refine zo rfl rfl trivial ?_|refine o_load rfl hb7 rfl rfl rfl rfl rfl ?_)
  refine o_callv (first := #[]) (cap := #[]) (acc_ret ea.k) rfl rfl rfl rfl ?_
  rintro v w8 ⟨rfl, rfl⟩
  (repeat refine zo rfl rfl trivial ?_)
  refine o_split _ _ rfl rfl rfl (fun h1 => ?_) (fun h1 => ?_)
  rotate_left
  · (repeat first|refine zo rfl rfl trivial ?_|refine zn ?_|refine zr ?_|refine zU rfl rfl rfl ?_|refine zV rfl rfl rfl ?_)
    exact ⟨_, rfl, by simp [h1], k07⟩
  (repeat first|refine zo rfl rfl trivial ?_|refine o_load rfl hd7 rfl rfl rfl rfl rfl ?_)
  refine o_callv (first := #[]) (cap := #[]) (acc_ret eb.k) rfl rfl rfl rfl ?_
  rintro v w9 ⟨rfl, rfl⟩
  (repeat refine zo rfl rfl trivial ?_)
  refine o_split _ _ rfl rfl rfl (fun h2 => ?_) (fun h2 => ?_)
  rotate_left
  · (repeat first|refine zo rfl rfl trivial ?_|refine zn ?_|refine zr ?_|refine zU rfl rfl rfl ?_|refine zV rfl rfl rfl ?_)
    exact ⟨_, rfl, by simp [h2], k07⟩
  rw [h1, h2]
  (repeat first|refine zo rfl rfl trivial ?_|refine o_load rfl hb7 rfl rfl rfl rfl rfl ?_)
  (repeat first|refine zo rfl rfl trivial ?_|refine o_load rfl hd7 rfl rfl rfl rfl rfl ?_)
  refine o_split _ _ rfl rfl rfl (fun h3 => ?_) (fun h3 => ?_)
  rotate_left
  · (repeat first|refine zo rfl rfl trivial ?_|refine zn ?_|refine zr ?_|refine zU rfl rfl rfl ?_|refine zV rfl rfl rfl ?_)
    exact ⟨_, rfl, by simp [h3], k07⟩
  rw [h3]
  (repeat first|refine zo rfl rfl trivial ?_|refine o_load rfl hb7 rfl rfl rfl rfl rfl ?_)
  (repeat first|refine zo rfl rfl trivial ?_|refine o_load rfl hd7 rfl rfl rfl rfl rfl ?_)
  refine o_split _ _ rfl rfl rfl (fun h4 => ?_) (fun h4 => ?_)
  rotate_left
  · (repeat first|refine zo rfl rfl trivial ?_|refine zn ?_|refine zr ?_|refine zV rfl rfl rfl ?_)
    exact ⟨_, rfl, by simp [h4], k07⟩
  rw [h4]
  (repeat first|refine zo rfl rfl trivial ?_|refine o_load rfl hb7 rfl rfl rfl rfl rfl ?_)
  refine o_split _ _ rfl rfl rfl (fun h5 => ?_) (fun h5 => ?_)
  · (repeat first|refine zo rfl rfl trivial ?_|refine zn ?_|refine zr ?_)
    exact ⟨_, rfl, by simp [h5], k07⟩
  rw [h5]
  (repeat first|refine zo rfl rfl trivial ?_|refine zn ?_|refine zr ?_|refine o_load rfl hd7 rfl rfl rfl rfl rfl ?_)
  exact ⟨_, rfl, by simp, k07⟩
theorem pair_ret {g : MG} {f : List UInt8 → Option Int} {s : Nat} (h : MAt w g f s) (op x y : Int) : Ret Tryz.prog 174 [ptr g.p, I op, I x, I y] w (fun v w' => v = I (pairV (qwO g.E g.R) op x y) ∧ Kp [] w w') := by
  have hB := h.hdr
  unfold pairV
  refine enter Tryz.call174 Tryz.func174 rfl rfl rfl rfl ?_
  (repeat first|refine zA ?_|refine zB ?_|refine zg ?_|refine zo rfl rfl trivial ?_|refine zn ?_|refine zb ?_)
  refine r_if rfl (fun c => ?_) (fun c => ?_)
  · rw [if_pos c]
    refine zA ?_
    refine zg ?_
    refine o_pure1 rfl rfl rfl ?_
    refine o_pure1 rfl rfl rfl ?_
    refine o_addW rfl rfl rfl rfl ?_
    (repeat first|refine zo rfl rfl trivial ?_|refine zn ?_|refine zr ?_)
    exact ⟨_, rfl, rfl, Kp.refl _ _⟩
  rw [if_neg c]
  (repeat first|refine zA ?_|refine zg ?_|refine zo rfl rfl trivial ?_|refine zn ?_)
  refine r_if rfl (fun c => ?_) (fun c => ?_)
  · rw [if_pos c]
    refine zA ?_
    refine zg ?_
    refine o_pure1 rfl rfl rfl ?_
    refine o_pure1 rfl rfl rfl ?_
    refine o_subW rfl rfl rfl rfl ?_
    (repeat first|refine zo rfl rfl trivial ?_|refine zn ?_|refine zr ?_)
    exact ⟨_, rfl, rfl, Kp.refl _ _⟩
  rw [if_neg c]
  (repeat first|refine zA ?_|refine zg ?_|refine zo rfl rfl trivial ?_|refine zn ?_)
  refine r_if rfl (fun c => ?_) (fun c => ?_)
  · rw [if_pos c]
    refine zA ?_
    refine zg ?_
    refine o_pure1 rfl rfl rfl ?_
    refine o_pure1 rfl rfl rfl ?_
    refine o_mulW rfl rfl rfl rfl ?_
    (repeat first|refine zo rfl rfl trivial ?_|refine zn ?_|refine zr ?_)
    exact ⟨_, rfl, rfl, Kp.refl _ _⟩
  rw [if_neg c]
  (repeat first|refine zA ?_|refine zg ?_|refine zo rfl rfl trivial ?_|refine zn ?_)
  refine r_if rfl (fun c => ?_) (fun c => ?_)
  · rw [if_pos c]
    (repeat first|refine zA ?_|refine zg ?_|refine zo rfl rfl trivial ?_)
    refine o_call (truth_ret _) rfl rfl rfl ?_
    rintro v w1 ⟨rfl, rfl⟩
    (repeat first|refine zo rfl rfl trivial ?_|refine zn ?_|refine zr ?_)
    exact ⟨_, rfl, rfl, Kp.refl _ _⟩
  rw [if_neg c]
  (repeat first|refine zA ?_|refine zg ?_|refine zo rfl rfl trivial ?_|refine zn ?_)
  refine r_if rfl (fun c => ?_) (fun c => ?_)
  · rw [if_pos c]
    (repeat first|refine zA ?_|refine zg ?_|refine zo rfl rfl trivial ?_)
    refine o_call (truth_ret _) rfl rfl rfl ?_
    rintro v w1 ⟨rfl, rfl⟩
    (repeat first|refine zo rfl rfl trivial ?_|refine zn ?_|refine zr ?_)
    exact ⟨_, rfl, rfl, Kp.refl _ _⟩
  rw [if_neg c]
  (repeat first|refine zA ?_|refine zg ?_|refine zo rfl rfl trivial ?_|refine zn ?_)
  refine r_if rfl (fun c => ?_) (fun c => ?_)
  · rw [if_pos c]
    (repeat first|refine zA ?_|refine zg ?_|refine zo rfl rfl trivial ?_)
    refine o_call (truth_ret _) rfl rfl rfl ?_
    rintro v w1 ⟨rfl, rfl⟩
    (repeat first|refine zo rfl rfl trivial ?_|refine zn ?_|refine zr ?_)
    exact ⟨_, rfl, rfl, Kp.refl _ _⟩
  rw [if_neg c]
  (repeat first|refine zA ?_|refine zg ?_|refine zo rfl rfl trivial ?_|refine zn ?_)
  refine r_if rfl (fun c => ?_) (fun c => ?_)
  · rw [if_pos c]
    (repeat first|refine zA ?_|refine zg ?_|refine zo rfl rfl trivial ?_)
    refine o_call (truth_ret _) rfl rfl rfl ?_
    rintro v w1 ⟨rfl, rfl⟩
    (repeat first|refine zo rfl rfl trivial ?_|refine zn ?_|refine zr ?_)
    exact ⟨_, rfl, rfl, Kp.refl _ _⟩
  rw [if_neg c]
  (repeat first|refine zA ?_|refine zg ?_|refine zo rfl rfl trivial ?_|refine zn ?_)
  refine r_if rfl (fun c => ?_) (fun c => ?_)
  · rw [if_pos c]
    (repeat first|refine zA ?_|refine zg ?_|refine zo rfl rfl trivial ?_)
    refine o_call (truth_ret _) rfl rfl rfl ?_
    rintro v w1 ⟨rfl, rfl⟩
    (repeat first|refine zo rfl rfl trivial ?_|refine zn ?_|refine zr ?_)
    exact ⟨_, rfl, rfl, Kp.refl _ _⟩
  rw [if_neg c]
  (repeat first|refine zA ?_|refine zg ?_|refine zo rfl rfl trivial ?_|refine zn ?_)
  refine r_if rfl (fun c => ?_) (fun c => ?_)
  · rw [if_pos c]
    (repeat first|refine zA ?_|refine zg ?_|refine zo rfl rfl trivial ?_)
    refine o_call (truth_ret _) rfl rfl rfl ?_
    rintro v w1 ⟨rfl, rfl⟩
    (repeat first|refine zo rfl rfl trivial ?_|refine zn ?_|refine zr ?_)
    exact ⟨_, rfl, rfl, Kp.refl _ _⟩
  rw [if_neg c]
  (repeat first|refine zA ?_|refine zg ?_|refine zo rfl rfl trivial ?_|refine zn ?_)
  refine r_if rfl (fun c => ?_) (fun c => ?_)
  · rw [if_pos c]
    (repeat first|refine zA ?_|refine zg ?_|refine zo rfl rfl trivial ?_|refine o_load rfl hB rfl rfl rfl rfl rfl ?_)
    refine o_call (oBefore_ret h.ord x y) rfl rfl rfl ?_
    rintro v w1 ⟨rfl, rfl⟩
    refine o_call (truth_ret _) rfl rfl rfl ?_
    rintro v w1 ⟨rfl, rfl⟩
    (repeat first|refine zo rfl rfl trivial ?_|refine zn ?_|refine zr ?_)
    exact ⟨_, rfl, rfl, Kp.refl _ _⟩
  rw [if_neg c]
  (repeat first|refine zA ?_|refine zg ?_|refine zo rfl rfl trivial ?_|refine zk ?_)
  refine o_call (race_ret h x y) rfl rfl rfl ?_
  rintro v w1 ⟨rfl, k1⟩
  refine o_call (truth_ret _) rfl rfl rfl ?_
  rintro v w2 ⟨rfl, rfl⟩
  (repeat first|refine zo rfl rfl trivial ?_|refine zn ?_|refine zr ?_)
  exact ⟨_, rfl, rfl, k1⟩
end Go.Vc
