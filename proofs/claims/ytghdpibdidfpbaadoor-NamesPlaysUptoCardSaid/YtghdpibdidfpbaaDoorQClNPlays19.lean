/- Blocks of a row, plain: each sorted; passes that merge two by two. -/
import Derived.Test.YtghdpibdidfpbaaDoorQClNPlays12
import Derived.Test.YtghdpibdidfpbaaDoorQClNPlays18
import Derived.Test.YtghdpibdidfpbaaDoorQClNPlays11
namespace Go.Vc
/-- x is u, block by block of k numbers sorted; the last one may be shorter -/
inductive Bks (d : Nat → Int) (k : Nat) : List Nat → List Nat → Prop
  | last {u x : List Nat} : u.length ≤ k → x.Perm u → Srt d x → Bks d k u x
  | cons {u0 x0 u x : List Nat} : u0.length = k → x0.Perm u0 → Srt d x0 → Bks d k u x → Bks d k (u0 ++ u) (x0 ++ x)
/-- whole blocks alone -/
inductive Fbs (d : Nat → Int) (k : Nat) : List Nat → List Nat → Prop
  | nil : Fbs d k [] []
  | snoc {u0 x0 u x : List Nat} : Fbs d k u x → u0.length = k → x0.Perm u0 → Srt d x0 → Fbs d k (u ++ u0) (x ++ x0)
variable {d : Nat → Int} {k : Nat}
theorem Fbs.bks {u x : List Nat} (h : Fbs d k u x) : ∀ {v y : List Nat}, Bks d k v y → Bks d k (u ++ v) (x ++ y) := by
  induction h with
  | nil => intro v y h; simpa using h
  | snoc h h1 h2 h3 ih => intro v y hv; rw [List.append_assoc, List.append_assoc]; exact ih (.cons h1 h2 h3 hv)
theorem Fbs.len {u x : List Nat} (h : Fbs d k u x) : x.length = u.length := by
  induction h with
  | nil => rfl
  | snoc h h1 h2 h3 ih => simp [ih, h2.length_eq]
theorem Bks.len {u x : List Nat} (h : Bks d k u x) : x.length = u.length := by
  induction h with
  | last h1 h2 h3 => exact h2.length_eq
  | cons h1 h2 h3 h4 ih => simp [ih, h2.length_eq]
/-- one block at most -/
theorem Bks.one {u x : List Nat} (h : Bks d k u x) (hk : u.length ≤ k) : x.Perm u ∧ Srt d x := by
  cases h with
  | last h1 h2 h3 => exact ⟨h2, h3⟩
  | @cons u0 x0 u1 x1 h1 h2 h3 h4 =>
    have e1 : u1 = [] := List.eq_nil_of_length_eq_zero (by simp at hk; omega)
    have e2 : x1 = [] := List.eq_nil_of_length_eq_zero (by rw [h4.len, e1]; rfl)
    subst e1 e2
    simpa using ⟨h2, h3⟩
/-- the first block is taken off -/
theorem Bks.first {u x : List Nat} (h : Bks d k u x) (hk : k ≤ u.length) : ∃ u0 u1 x0 x1, u = u0 ++ u1 ∧ x = x0 ++ x1 ∧ u0.length = k ∧ x0.Perm u0 ∧ Srt d x0 ∧ Bks d k u1 x1 := by
  cases h with
  | last h1 h2 h3 => exact ⟨u, [], x, [], by simp, by simp, by omega, h2, h3, .last (by simp) (List.Perm.refl _) (by simp)⟩
  | @cons u0 x0 u1 x1 h1 h2 h3 h4 => exact ⟨u0, u1, x0, x1, rfl, rfl, h1, h2, h3, h4⟩
end Go.Vc
/- slices.stableCmpFunc, slices.SortStableFunc at []int: rising numbers come out by the key. -/
namespace Go.Vc
open Go Go.Proofs
set_option maxRecDepth 10000
variable {w : World}
theorem inc_app {u v : List Nat} (h : (u ++ v).Pairwise (· < ·)) : u.Pairwise (· < ·) ∧ v.Pairwise (· < ·) ∧ Ahead u v := List.pairwise_append.1 h
theorem take_more {xs : List Nat} {i k : Nat} : xs.take (i + k) = xs.take i ++ (xs.drop i).take k := by rw [List.take_add]
set_option maxHeartbeats 6400000 in
theorem stable_ret {g : FuncId} {lb : List Value} {d : Nat → Int} {S : Nat → Prop} {ad : Option Addr} {n cap : Nat} {xs : List Nat} (h : Dat w ad n cap xs) (hc : CmpK g lb d S (blkOf ad) w) (hS : ∀ x ∈ xs, S x) (hinc : xs.Pairwise (· < ·)) (hn1 : n ≤ 1073741824) :
    Ret Tryd.prog 42 [.slice ad n cap, I n, fv g lb] w (fun _ w' => ∃ s', s'.Perm xs ∧ Srt d s' ∧ Dat w' ad n cap s' ∧ Kp (blkOf ad) w w') := by
  have hn := h.len
  have hdk : ∀ j k : Nat, xs.drop (20 * j + k) = (xs.drop (20 * j)).drop k := fun j k => by rw [List.drop_drop]
  refine enter Tryd.call42 Tryd.func42 rfl rfl rfl rfl ?_
  (repeat first|refine zA ?_|refine zC ?_|refine zg ?_|refine zo rfl rfl trivial ?_|refine zn ?_|refine zb ?_)
  refine r_loop (α := Nat) [0, 1, 2, 6, 7, 8] (fun j => [.slice ad n cap, I n, fv g lb, I 20, I (20 * j : Nat), I (20 * j + 20 : Nat)])
    (fun j W => 20 * j ≤ n ∧ ∃ t, Fbs d 20 (xs.take (20 * j)) t ∧ Dat W ad n cap (t ++ xs.drop (20 * j)) ∧ Kp (blkOf ad) w W) (fun j => n + 1 - 20 * j) 0 rfl ⟨by omega, [], by simpa using Fbs.nil, by simpa using h, Kp.refl _ _⟩ ?_
  rintro j e W ⟨hj, t, hf, hD, hk⟩
  have htl : t.length = 20 * j := by rw [hf.len, List.length_take]; omega
  (repeat first|refine zA ?_|refine zB ?_|refine zg ?_|refine zo rfl rfl trivial ?_|refine zn ?_)
  refine r_if rfl (fun hlt => ?_) (fun hlt => ?_)
  · have hlt : 20 * j + 20 ≤ n := by omega
    have hsplit : xs.drop (20 * j) = (xs.drop (20 * j)).take 20 ++ xs.drop (20 * j + 20) := by rw [hdk, List.take_append_drop]
    have hl20 : ((xs.drop (20 * j)).take 20).length = 20 := by rw [List.length_take, List.length_drop]; omega
    have hi20 : ((xs.drop (20 * j)).take 20).Pairwise (· < ·) := (hinc.drop).take
    have hs20 : ∀ x ∈ (xs.drop (20 * j)).take 20, S x := fun x hx => hS x (List.mem_of_mem_drop (List.mem_of_mem_take hx))
    have htk : xs.take (20 * (j + 1)) = xs.take (20 * j) ++ (xs.drop (20 * j)).take 20 := by rw [show 20 * (j + 1) = 20 * j + 20 by omega, take_more]
    (repeat first|refine zA ?_|refine zg ?_|refine zo rfl rfl trivial ?_|refine zb ?_|refine zk ?_)
    refine o_call (insertion_ret (p := t) (s := (xs.drop (20 * j)).take 20) (q := xs.drop (20 * j + 20)) (a := 20 * j) (b := 20 * j + 20) (by rw [List.append_assoc, ← hsplit]; exact hD) (hc.kp hk) hs20 hi20 (by omega) (by omega) hn1) rfl rfl rfl ?_
    rintro v W1 ⟨s', hp, hs, hD1, hk1⟩
    (repeat first|refine zA ?_|refine zg ?_|refine zo rfl rfl (by first|exact trivial|(simp only[AllP];omega)) ?_|refine zn ?_)
    refine ⟨j + 1, ?_, ⟨by omega, t ++ s', ?_, ?_, hk.trans hk1⟩, by omega⟩
    · show [Value.slice ad n cap, I n, fv g lb, I 20, I (20 * j + 20 : Nat), I (((20 * j + 20 : Nat) : Int) + 20)] = [Value.slice ad n cap, I n, fv g lb, I 20, I (20 * (j + 1) : Nat), I (20 * (j + 1) + 20 : Nat)]
      rw [show 20 * (j + 1) = 20 * j + 20 by omega]
      rfl
    · rw [htk]; exact hf.snoc hl20 hp hs
    · rw [show 20 * (j + 1) = 20 * j + 20 by omega]; exact hD1
  · have hlt : ¬ 20 * j + 20 ≤ n := by omega
    have hil : (xs.drop (20 * j)).Pairwise (· < ·) := hinc.drop
    have hsl : ∀ x ∈ xs.drop (20 * j), S x := fun x hx => hS x (List.mem_of_mem_drop hx)
    have hll : (xs.drop (20 * j)).length = n - 20 * j := by rw [List.length_drop]; omega
    (repeat first|refine zA ?_|refine zg ?_|refine zo rfl rfl trivial ?_|refine ze rfl ?_)
    refine o_call (insertion_ret (p := t) (s := xs.drop (20 * j)) (q := []) (a := 20 * j) (b := n) (by simpa using hD) (hc.kp hk) hsl hil (by omega) (by omega) hn1) rfl rfl rfl ?_
    rintro v W1 ⟨s', hp, hs, hD1, hk1⟩
    have hB0 : Bks d 20 xs (t ++ s') := by
      have := hf.bks (Bks.last (k := 20) (by omega) hp hs)
      rwa [List.take_append_drop] at this
    have hD1 : Dat W1 ad n cap (t ++ s') := by simpa using hD1
    generalize t ++ s' = y0 at hB0 hD1
    (repeat first|refine zn ?_|refine zb ?_)
    refine r_loop (α := Nat) [0, 1, 2, 6] (fun z => [.slice ad n cap, I n, fv g lb, I z])
      (fun z W => 1 ≤ z ∧ z ≤ 2147483648 ∧ ∃ x, Bks d z xs x ∧ Dat W ad n cap x ∧ Kp (blkOf ad) w W) (fun z => n - z) 20 rfl ⟨by decide, by decide, y0, hB0, hD1, hk.trans hk1⟩ ?_
    rintro z e2 W2 ⟨hz1, hz2, x, hB, hD2, hk2⟩
    (repeat first|refine zA ?_|refine zB ?_|refine zg ?_|refine zo rfl rfl trivial ?_|refine zn ?_)
    refine r_if rfl (fun hzn => ?_) (fun hzn => ?_)
    · have hzn : z < n := by omega
      (repeat first|refine zA ?_|refine zC ?_|refine zg ?_|refine zo rfl rfl (by first|exact trivial|(simp only[AllP];omega)) ?_|refine zn ?_|refine zb ?_|refine zk ?_)
      refine r_loop (α := Nat) [0, 1, 2, 6, 7, 8] (fun i => [.slice ad n cap, I n, fv g lb, I z, I i, I ((i : Int) + 2 * z)])
        (fun i W => i ≤ n ∧ ∃ u1 u2 y1 x2, xs = u1 ++ u2 ∧ u1.length = i ∧ Fbs d (2 * z) u1 y1 ∧ Bks d z u2 x2 ∧ Dat W ad n cap (y1 ++ x2) ∧ Kp (blkOf ad) w W) (fun i => n - i) 0
        (by show [Value.slice ad n cap, I n, fv g lb, I z, I 0, I (2 * (z : Int))] = [Value.slice ad n cap, I n, fv g lb, I z, I ((0 : Nat) : Int), I (((0 : Nat) : Int) + 2 * z)]; rw [show ((0 : Nat) : Int) + 2 * z = 2 * (z : Int) by omega]; rfl)
        ⟨by omega, [], xs, [], x, rfl, rfl, .nil, hB, by simpa using hD2, hk2⟩ ?_
      rintro i e3 W3 ⟨hi, u1, u2, y1, x2, hxs, hul, hF, hB2, hD3, hk3⟩
      have hul2 : u2.length = n - i := by rw [hxs, List.length_append] at hn; omega
      have hyl : y1.length = i := by rw [hF.len]; exact hul
      rw [hxs] at hinc
      have hS2 : ∀ x ∈ u2, S x := fun x hx => hS x (by rw [hxs]; simp [hx])
      obtain ⟨_, hi2, _⟩ := inc_app hinc
      (repeat first|refine zA ?_|refine zB ?_|refine zg ?_|refine zo rfl rfl trivial ?_|refine zn ?_)
      refine r_if rfl (fun hlt2 => ?_) (fun hlt2 => ?_)
      · have hlt2 : i + 2 * z ≤ n := by omega
        obtain ⟨ua, ur, xa, xr, rfl, rfl, hla, hpa, hsa, hBr⟩ := hB2.first (by omega)
        rw [List.length_append] at hul2
        obtain ⟨ub, u3, xb, x3, rfl, rfl, hlb, hpb, hsb, hB3⟩ := hBr.first (by omega)
        obtain ⟨_, hi3, hah⟩ := inc_app hi2
        have hab : Ahead xa xb := fun p hp q hq => hah p (hpa.subset hp) q (by simp [hpb.subset hq])
        have hxa := hpa.length_eq
        have hxb := hpb.length_eq
        (repeat first|refine zA ?_|refine zg ?_|refine zo rfl rfl (by first|exact trivial|(simp only[AllP];omega)) ?_|refine zb ?_|refine zk ?_)
        refine o_call (symMerge_ret hn1 (xa.length + xb.length) W3 y1 xa xb x3 i (i + z) (i + 2 * z) (Nat.le_refl _) (by simpa using hD3) (hc.kp hk3) (fun q hq => hS2 q (by simp [hpa.subset hq])) (fun q hq => hS2 q (by simp [hpb.subset hq])) hsa hsb hab (by omega) (by omega) (by omega) (by omega) (by omega)) rfl rfl rfl ?_
        rintro v4 W4 ⟨s4, hp4, hs4, hD4, hk4⟩
        (repeat first|refine zA ?_|refine zg ?_|refine zo rfl rfl (by first|exact trivial|(simp only[AllP];omega)) ?_|refine zn ?_)
        refine ⟨i + 2 * z, ?_, ⟨by omega, u1 ++ (ua ++ ub), u3, y1 ++ s4, x3, by rw [hxs]; simp, by simp; omega, hF.snoc (by simp; omega) (hp4.trans (hpa.append hpb)) hs4, hB3, hD4, hk3.trans hk4⟩, by omega⟩
        show [Value.slice ad n cap, I n, fv g lb, I z, I ((i : Int) + 2 * z), I (((i : Int) + 2 * z) + 2 * z)] = [Value.slice ad n cap, I n, fv g lb, I z, I ((i + 2 * z : Nat) : Int), I (((i + 2 * z : Nat) : Int) + 2 * z)]
        rw [show (i : Int) + 2 * z = ((i + 2 * z : Nat) : Int) by omega]
      · have hlt2 : ¬ i + 2 * z ≤ n := by omega
        have fin : ∀ (e4 : Env) (W4 : World) (x4 : List Nat), Bks d (2 * z) xs x4 → Dat W4 ad n cap x4 → Kp (blkOf ad) w W4 → 1 ≤ 2 * z ∧ 2 * z ≤ 2147483648 ∧ ∃ x, Bks d (2 * z) xs x ∧ Dat W4 ad n cap x ∧ Kp (blkOf ad) w W4 := fun e4 W4 x4 h1 h2 h3 => ⟨by omega, by omega, x4, h1, h2, h3⟩
        have hz2' : (z : Int) * 2 = ((2 * z : Nat) : Int) := by omega
        (repeat first|refine zA ?_|refine zB ?_|refine zg ?_|refine zo rfl rfl (by first|exact trivial|(simp only[AllP];omega)) ?_|refine zn ?_|refine ze rfl ?_)
        refine r_if rfl (fun hm => ?_) (fun hm => ?_)
        · have hm : i + z < n := by omega
          obtain ⟨ua, ur, xa, xr, rfl, rfl, hla, hpa, hsa, hBr⟩ := hB2.first (by omega)
          rw [List.length_append] at hul2
          obtain ⟨hpb, hsb⟩ := hBr.one (by omega)
          obtain ⟨_, hi3, hah⟩ := inc_app hi2
          have hab : Ahead xa xr := fun p hp q hq => hah p (hpa.subset hp) q (hpb.subset hq)
          have hxa := hpa.length_eq
          have hxb := hpb.length_eq
          (repeat first|refine zg ?_|refine zo rfl rfl trivial ?_)
          refine o_call (symMerge_ret hn1 (xa.length + xr.length) W3 y1 xa xr [] i (i + z) n (Nat.le_refl _) (by simpa using hD3) (hc.kp hk3) (fun q hq => hS2 q (by simp [hpa.subset hq])) (fun q hq => hS2 q (by simp [hpb.subset hq])) hsa hsb hab (by omega) (by omega) (by omega) (by omega) (by omega)) rfl rfl rfl ?_
          rintro v4 W4 ⟨s4, hp4, hs4, hD4, hk4⟩
          (repeat first|refine zg ?_|refine zo rfl rfl (by first|exact trivial|(simp only[AllP];omega)) ?_|refine zn ?_)
          refine ⟨2 * z, by show [Value.slice ad n cap, I n, fv g lb, I ((z : Int) * 2)] = _; rw [hz2'], fin e3 W4 (y1 ++ s4) ?_ (by simpa using hD4) (hk3.trans hk4), by omega⟩
          rw [hxs]
          exact hF.bks (.last (by simp; omega) (hp4.trans (hpa.append hpb)) hs4)
        · have hm : ¬ i + z < n := by omega
          obtain ⟨hpb, hsb⟩ := hB2.one (by omega)
          (repeat first|refine zg ?_|refine zo rfl rfl (by first|exact trivial|(simp only[AllP];omega)) ?_|refine zn ?_|refine zk ?_)
          refine ⟨2 * z, by show [Value.slice ad n cap, I n, fv g lb, I ((z : Int) * 2)] = _; rw [hz2'], fin e3 W3 (y1 ++ x2) ?_ hD3 hk3, by omega⟩
          rw [hxs]
          exact hF.bks (.last (by omega) hpb hsb)
    · have hzn : n ≤ z := by omega
      obtain ⟨hp, hs⟩ := hB.one (by omega)
      (repeat refine ze rfl ?_)
      exact ⟨_, rfl, x, hp, hs, hD2, hk2⟩
theorem sortStable_ret {g : FuncId} {lb : List Value} {d : Nat → Int} {S : Nat → Prop} {ad : Option Addr} {n cap : Nat} {xs : List Nat} (h : Dat w ad n cap xs) (hc : CmpK g lb d S (blkOf ad) w) (hS : ∀ x ∈ xs, S x) (hinc : xs.Pairwise (· < ·)) (hn1 : n ≤ 1073741824) :
    Ret Tryd.prog 23 [.slice ad n cap, fv g lb] w (fun _ w' => ∃ s', s'.Perm xs ∧ Srt d s' ∧ Dat w' ad n cap s' ∧ Kp (blkOf ad) w w') := by
  refine enter Tryd.call23 Tryd.func23 rfl rfl rfl rfl ?_
  (repeat first|refine zg ?_|refine zo rfl rfl trivial ?_)
  refine o_call (stable_ret h hc hS hinc hn1) rfl rfl rfl ?_
  rintro v W1 ⟨s', hp, hs, hD1, hk1⟩
  (repeat refine zn ?_)
  exact ⟨_, rfl, s', hp, hs, hD1, hk1⟩
end Go.Vc
/- Loads and stores of structs and arrays: many cells at once. -/
namespace Go.Vc
open Go
variable {P : Program} {n : Nat} {a : Act} {e : Env} {w : World} {K : EPost} {X : List (Nat × EPost)} {R : EPost} {all : List Oper} {G : List Nat} {ro : Option Nat}

theorem Upd.trans {w1 w2 : World} {b : Nat} {o1 o2 : Obj} (h : Upd w b o1 w1) (k : Upd w1 b o2 w2) : Upd w b o2 w2 :=
  ⟨k.os.trans h.os, k.tape.trans h.tape, k.output.trans h.output, k.at_, fun c hc => (k.other c hc).trans (h.other c hc), Nat.le_trans h.size k.size, by have := h.size'; have := k.size'; omega⟩
theorem isAgg_run' {ty : TypeId} {d : TypeDesc} (hd : P.underlying ty = some d) (ha : aggD d = true) : (isAgg ty).run P w = .ok true w := by
  simp only [isAgg, Sem.run_bind, run_underlying hd, Result.andThen_ok]
  cases d <;> first | rfl | (cases ha)
theorem run_loadCells {ad : Addr} : ∀ (vs : List Value) (i : Nat) (acc : Array Value), (∀ j v, vs[j]? = some v → w.cell? (ad.add (i + j)) = some v) → (loadCellsFrom ad i vs.length acc).run P w = .ok (acc ++ ⟨vs⟩) w
  | [], i, acc, _ => by simp [loadCellsFrom]
  | v :: vs, i, acc, h => by
    have h0 := h 0 v rfl
    rw [Nat.add_zero] at h0
    have ih := run_loadCells vs (i + 1) (acc.push v) (fun j u hu => by
      have := h (j + 1) u (by simpa using hu)
      rwa [show i + (j + 1) = i + 1 + j by omega] at this)
    simp only [List.length_cons, loadCellsFrom, Sem.run_bind, run_load, h0, Result.andThen_ok, ih]
    congr 1
    apply Array.ext'
    simp
section
variable {dst : Option Tmp} {ty : TypeId} {pos : String} {after : Array Edge} {g : Option (Nat × Bool)} {l : List Oper} {t : TypeId} {x y : Operand} {b off : Nat} {d : TypeDesc} {i : TypeInfo}
theorem exec_loadA {vs : List Value} (hp : ev e x = .pointer (some ⟨b, off, none⟩)) (hu : P.underlying t = some d) (ha : aggD d = true) (hi : P.info? t = some i) (hs : i.size = vs.length) (hc : ∀ j v, vs[j]? = some v → w.cell? ⟨b, off + j, none⟩ = some v) :
    (execOp (ev e) ⟨dst, .load t x, ty, pos, after, g⟩).run P w = .ok (.value (.agg ⟨vs⟩)) w := by
  have hl := run_loadCells (P := P) (w := w) (ad := ⟨b, off, none⟩) vs 0 #[] (fun j v hv => by rw [addr_lit, Nat.zero_add]; exact hc j v hv)
  simp [execOp, hp, Instr.loadAt, Instr.sureAddr, loadVar, isAgg_run' hu ha, loadCells, sizeOf, typeInfo, hi, hs, hl]
theorem o_loadA {vs : List Value} (hp : ev e x = .pointer (some ⟨b, off, none⟩)) (hc : ∀ j v, vs[j]? = some v → w.cell? ⟨b, off + j, none⟩ = some v) (hu : P.underlying t = some d) (ha : aggD d = true) (hi : P.info? t = some i) (hs : i.size = vs.length) (hd : dOk n dst = true) (hm : may all G e g = some true)
    (k : Ops ro P n all G K l (put e dst (.agg ⟨vs⟩)) w) : Ops ro P n all G K (⟨dst, .load t x, ty, pos, after, g⟩ :: l) e w :=
  ops_does hd hm (exec_loadA hp hu ha hi hs hc) k
/-- these cells laid over a row from a place on -/
def setMany : List Value → Nat → List Value → List Value
  | L, _, [] => L
  | L, i, v :: r => setMany (L.set i v) (i + 1) r
end
end Go.Vc
