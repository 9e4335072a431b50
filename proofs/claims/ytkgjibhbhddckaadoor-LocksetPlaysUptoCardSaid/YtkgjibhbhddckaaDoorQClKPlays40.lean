/- abreastref23: Events, beside the keeper's own state. -/
import Derived.Test.YtkgjibhbhddckaaDoorQClKPlays39
import Derived.Test.YtkgjibhbhddckaaDoorQClKPlays32
import Derived.Test.YtkgjibhbhddckaaDoorQClKPlays15
import Derived.Maps.RangeRun
namespace Go.Vc
open Go Go.Proofs
set_option maxRecDepth 10000
variable {w : World}
def runA (s : Shp) (S : LS) (A : List AccR) (l : List Ev) : Nat → List AccR
  | 0 => A
  | i + 1 => match l[i]? with
    | some x => stepA (runN s S l i) (runA s S A l i) x
    | none => runA s S A l i
theorem runA_succ {s : Shp} {S : LS} {A : List AccR} {l : List Ev} {i : Nat} {x : Ev} (h : l[i]? = some x) : runA s S A l (i + 1) = stepA (runN s S l i) (runA s S A l i) x := by
  show (match l[i]? with | some x => stepA (runN s S l i) (runA s S A l i) x | none => runA s S A l i) = _
  rw [h]
theorem RIn.stepR {s : Shp} {S : LS} {A : List AccR} (h : RIn s S A) (x : Ev) : stepR s S.c A x = stepA S A x := by
  unfold Go.Vc.stepR stepA
  rw [h.held]
section
variable {g : K23} {s : Shp} {S : LS} {A : List AccR}
theorem rEvent_S (h : R23 w g s S.c A) (hi : RIn s S A) (hn : S.c.n ≤ 2199023255552) (x : Ev) : Ret Tryd.prog 16 [ptr g.p, .agg ⟨evC x⟩] w (fun v w' => (canB s S.c x = true ∧ v = I 0 ∧ ∃ g', R23 w' g' s (stepL S x s).c (stepA S A x) ∧ RIn s (stepL S x s) (stepA S A x) ∧ KTo23 w g w' g') ∨ (canB s S.c x = false ∧ v = I 6 ∧ Kp [] w w')) :=
  (rEvent_ret h hn x).mono fun v w' hh => by
    rcases hh with ⟨h1, h2, g', h3, h4⟩ | hh
    · exact .inl ⟨h1, h2, g', by rw [← hi.stepR]; exact h3, hi.step h1, h4⟩
    · exact .inr hh
set_option maxHeartbeats 1600000 in
theorem rEvents_S (h : R23 w g s S.c A) (hi : RIn s S A) {ad : Option Addr} {l : List Ev} {cap : Nat} (hn : S.c.n + l.length ≤ 2199023255552) (hr : ReadS w ad (evsC l)) (hin : 0 < l.length → ∀ b, b ∈ blkOf ad → ¬ g.Wr b) :
    Ret Tryd.prog 18 [ptr g.p, .slice ad l.length cap] w (fun v w' => ∃ k g', k ≤ l.length ∧ v = .tuple #[I k, I (if k = l.length then 0 else 6)] ∧ R23 w' g' s (runN s S l k).c (runA s S A l k) ∧ RIn s (runN s S l k) (runA s S A l k) ∧ KTo23 w g w' g' ∧ (∀ j e, j < k → l[j]? = some e → canB s (runN s S l j).c e = true) ∧ ∀ e, l[k]? = some e → canB s (runN s S l k).c e = false) := by
  refine enter Tryd.call18 Tryd.func18 rfl rfl rfl rfl ?_
  (repeat first|refine zA ?_|refine zB ?_|refine zg ?_|refine zo rfl rfl trivial ?_|refine zn ?_|refine zb ?_|refine zk ?_|refine zf rfl ?_)
  refine r_loop (α := Nat) [0, 1, 6] (fun i => [ptr g.p, .slice ad l.length cap, I i]) (fun i w1 => (∃ g', R23 w1 g' s (runN s S l i).c (runA s S A l i) ∧ RIn s (runN s S l i) (runA s S A l i) ∧ KTo23 w g w1 g') ∧ i ≤ l.length ∧ (∀ j e, j < i → l[j]? = some e → canB s (runN s S l j).c e = true)) (fun i => l.length - i) 0 rfl ⟨⟨g, h, hi, KTo23.refl _ _⟩, by omega, fun j e hj => by omega⟩ ?_
  rintro i e w1 ⟨⟨g1, h1, hi1, t1⟩, hil, hok⟩
  (repeat first|refine zA ?_|refine zB ?_|refine zg ?_|refine zo rfl rfl trivial ?_|refine zn ?_)
  refine r_if rfl (fun hc => ?_) (fun hc => ?_)
  · have hlt : i < l.length := by omega
    obtain ⟨x, hx⟩ : ∃ x, l[i]? = some x := ⟨_, List.getElem?_eq_getElem hlt⟩
    obtain ⟨b, off, rfl, hb, hcell⟩ := hr.at_ (by rw [evsC_len]; omega)
    have hkeep := t1.kq.at_ b hb (hin (by omega) b (by simp [blkOf]))
    have hn3 := runN_n (s := s) (S := S) (l := l) i hil
    have ek : ptr g.p = ptr g1.p := by rw [t1.p]
    (repeat first|refine zA ?_|refine zC ?_|refine zg ?_|refine zo rfl rfl (by first|exact trivial|(simp only[AllP];omega)) ?_|refine zb ?_|refine zk ?_)
    refine o_loadA (vs := evC x) rfl (fun j v hv => ?_) rfl rfl rfl rfl rfl rfl ?_
    · have h2 := hcell _ _ (evsC_get hx j v hv)
      rw [Int.toNat_natCast, Nat.add_assoc, ← h2]
      exact World.cell?_of_block hkeep
    refine o_call (vs := [ptr g1.p, .agg ⟨evC x⟩]) (rEvent_S h1 hi1 (by omega) x) (by rw [← ek]; rfl) rfl rfl ?_
    rintro v w4 (⟨hcan, rfl, g4, h4, hi4, t4⟩ | ⟨hcan, rfl, k4⟩)
    · (repeat first|refine zA ?_|refine zg ?_|refine zo rfl rfl (by first|exact trivial|(simp only[AllP];omega)) ?_|refine zn ?_|refine zk ?_|refine zf rfl ?_)
      refine ⟨i + 1, rfl, ⟨⟨g4, by rw [runN_succ hx, runA_succ hx]; exact h4, by rw [runN_succ hx, runA_succ hx]; exact hi4, t1.trans t4⟩, by omega, fun j e hj he => ?_⟩, by omega⟩
      by_cases hji : j = i
      · subst hji; rw [hx] at he; cases he; exact hcan
      · exact hok j e (by omega) he
    · (repeat first|refine zA ?_|refine zg ?_|refine zo rfl rfl trivial ?_|refine zn ?_|refine zr ?_|refine zt rfl ?_)
      refine ⟨_, rfl, i, g1, by omega, ?_, h1.kp0 k4, hi1, t1.trans (KTo23.of0 k4), hok, fun e he => ?_⟩
      · rw [if_neg (by omega)]
      · rw [hx] at he; cases he; exact hcan
  · have hil2 : i = l.length := by omega
    subst hil2
    (repeat first|refine zA ?_|refine zg ?_|refine zo rfl rfl trivial ?_|refine zn ?_|refine ze rfl ?_|refine zr ?_)
    refine ⟨_, rfl, l.length, g1, Nat.le_refl _, ?_, h1, hi1, t1, hok, fun e he => ?_⟩
    · rw [if_pos rfl]
    · rw [List.getElem?_eq_none (Nat.le_refl _)] at he; cases he
/-- both stop at the same event -/
theorem stop_same {s : Shp} {S : LS} {l : List Ev} {k m : Nat} (h1 : ∀ j e, j < k → l[j]? = some e → canB s (runN s S l j).c e = true) (h2 : ∀ e, l[k]? = some e → canB s (runN s S l k).c e = false) (hk : k ≤ l.length)
    (h3 : ∀ j e, j < m → l[j]? = some e → canB s (runN s S l j).c e = true) (h4 : ∀ e, l[m]? = some e → canB s (runN s S l m).c e = false) (hm : m ≤ l.length) : k = m := by
  rcases Nat.lt_trichotomy k m with q | q | q
  · have hx : l[k]? = some l[k] := List.getElem?_eq_getElem (by omega)
    have a := h3 k _ q hx
    have b := h2 _ hx
    rw [a] at b; cases b
  · exact q
  · have hx : l[m]? = some l[m] := List.getElem?_eq_getElem (by omega)
    have a := h1 m _ q hx
    have b := h4 _ hx
    rw [a] at b; cases b
end
end Go.Vc
/- lockset: a keeper that is not there. -/
namespace Go.Vc
open Go Go.Proofs
set_option maxRecDepth 10000
variable {w : World}
/-- no keeper, or one without a checker -/
def AbsK (w : World) (p : Option Addr) : Prop := p = none ∨ ∃ b, p = some ⟨b, 0, none⟩ ∧ Blk w b [.pointer none, .map none, .slice none 0 0] 73
theorem AbsK.kp0 {w' : World} {p : Option Addr} (h : AbsK w p) (hk : Kp [] w w') : AbsK w' p := by
  rcases h with h | ⟨b, h1, h2⟩
  · exact .inl h
  · exact .inr ⟨b, h1, hk.blk (by simp) h2⟩
section
variable {p : Option Addr}
theorem there_abs (h : AbsK w p) : Ret Tryd.prog 31 [.pointer p] w (fun v w' => v = .bool false ∧ w' = w) := by
  refine enter Tryd.call31 Tryd.func31 rfl rfl rfl rfl ?_
  rcases h with rfl | ⟨b, rfl, hB⟩
  · (repeat first|refine zA ?_|refine zg ?_|refine zo rfl rfl trivial ?_|refine zn ?_|refine zr ?_|refine zU rfl rfl rfl ?_)
    exact ⟨_, rfl, rfl, rfl⟩
  · (repeat first|refine zA ?_|refine zg ?_|refine zo rfl rfl trivial ?_|refine zn ?_|refine zT rfl rfl rfl ?_)
    refine o_load (v := .pointer none) rfl hB rfl rfl rfl rfl rfl ?_
    (repeat first|refine zo rfl rfl trivial ?_|refine zn ?_|refine zr ?_)
    exact ⟨_, rfl, rfl, rfl⟩
theorem variable_abs (h : AbsK w p) (n : Int) : Ret Tryd.prog 38 [.pointer p, I n] w (fun v w' => v = .pointer none ∧ w' = w) := by
  refine enter Tryd.call38 Tryd.func38 rfl rfl rfl rfl ?_
  (repeat first|refine zA ?_|refine zB ?_|refine zg ?_|refine zo rfl rfl trivial ?_|refine zn ?_)
  refine o_call (there_abs h) rfl rfl rfl ?_
  rintro v wx ⟨rfl, rfl⟩
  (repeat first|refine zA ?_|refine zg ?_|refine zo rfl rfl trivial ?_|refine zn ?_|refine zr ?_|refine zT rfl rfl rfl ?_|refine zt rfl ?_)
  exact ⟨_, rfl, rfl, rfl⟩
theorem Held_abs (h : AbsK w p) (n : Int) : Ret Tryd.prog 28 [.pointer p, I n] w (fun v w' => v = .slice none 0 0 ∧ w' = w) := by
  refine enter Tryd.call28 Tryd.func28 rfl rfl rfl rfl ?_
  (repeat first|refine zA ?_|refine zB ?_|refine zg ?_|refine zo rfl rfl trivial ?_|refine zn ?_)
  refine o_call (there_abs h) rfl rfl rfl ?_
  rintro v wx ⟨rfl, rfl⟩
  (repeat first|refine zA ?_|refine zg ?_|refine zo rfl rfl trivial ?_|refine zn ?_|refine zr ?_|refine zt rfl ?_)
  exact ⟨_, rfl, rfl, rfl⟩
theorem Keeps_abs (h : AbsK w p) (n : Int) : Ret Tryd.prog 10 [.pointer p, I n] w (fun v w' => v = .tuple #[.slice none 0 0, .bool false] ∧ w' = w) := by
  refine enter Tryd.call10 Tryd.func10 rfl rfl rfl rfl ?_
  (repeat first|refine zA ?_|refine zg ?_|refine zo rfl rfl trivial ?_|refine zn ?_)
  refine o_call (variable_abs h n) rfl rfl rfl ?_
  rintro v wx ⟨rfl, rfl⟩
  (repeat first|refine zA ?_|refine zB ?_|refine zg ?_|refine zo rfl rfl trivial ?_|refine zn ?_|refine zr ?_|refine zT rfl rfl rfl ?_|refine zt rfl ?_)
  exact ⟨_, rfl, rfl, rfl⟩
theorem View_abs (h : AbsK w p) (n : Int) : Ret Tryd.prog 11 [.pointer p, I n] w (fun v w' => v = .tuple #[.agg ⟨[I 0, I 0, .slice none 0 0]⟩, .bool false] ∧ Kp [] w w') := by
  refine enterC Tryd.call11 Tryd.func11 rfl rfl rfl rfl ?_
  (repeat first|refine zA ?_|refine zg ?_)
  refine o_alloc rfl rfl rfl rfl ?_
  intro bv w1 hbv hu1
  have k1 : Kp [] w w1 := hu1.kp [] (.inr (by omega))
  (repeat first|refine zA ?_|refine zg ?_|refine zo rfl rfl trivial ?_|refine zn ?_)
  refine o_call (variable_abs (h.kp0 k1) n) rfl rfl rfl ?_
  rintro v wx ⟨rfl, rfl⟩
  (repeat first|refine zA ?_|refine zB ?_|refine zg ?_|refine zo rfl rfl trivial ?_|refine zn ?_|refine zt rfl ?_)
  refine o_build [I 0, I 0, .slice none 0 0] rfl rfl rfl rfl rfl rfl rfl ?_
  refine o_storeA (cs := [I 0, I 0, .slice none 0 0]) rfl hu1.blk (Nat.le_refl _) rfl (by simp [Value.oneCell']) rfl rfl rfl rfl ?_
  intro w2 hu2
  have k2 : Kp [] w w2 := k1.since (hu2.kp [bv] (.inl (by simp))) (by simp; omega)
  have hB2 : Blk w2 bv [I 0, I 0, .slice none 0 0] 41 := hu2.blk
  (repeat first|refine zo rfl rfl trivial ?_|refine zn ?_|refine zr ?_)
  exact ⟨[.agg ⟨[I 0, I 0, .slice none 0 0]⟩, _], ⟨⟨_, rfl, run_loadB hB2 rfl rfl rfl rfl⟩, ⟨_, rfl⟩, trivial⟩, rfl, k2⟩
theorem Event_abs (h : AbsK w p) (x : Ev) : Ret Tryd.prog 9 [.pointer p, .agg ⟨evC x⟩] w (fun v w' => v = I 1 ∧ Kp [] w w') := by
  refine enter Tryd.call9 Tryd.func9 rfl rfl rfl rfl ?_
  (repeat first|refine zA ?_|refine zg ?_)
  refine o_box rfl rfl rfl ?_
  intro bx w1 hbx hu1
  have k1 : Kp [] w w1 := hu1.kp [] (.inr (by omega))
  (repeat first|refine zA ?_|refine zB ?_|refine zg ?_|refine zo rfl rfl trivial ?_|refine zn ?_)
  refine o_call (there_abs (h.kp0 k1)) rfl rfl rfl ?_
  rintro v wx ⟨rfl, rfl⟩
  (repeat first|refine zA ?_|refine zg ?_|refine zo rfl rfl trivial ?_|refine zn ?_|refine zr ?_|refine zt rfl ?_)
  exact ⟨_, rfl, rfl, k1⟩
theorem Events_abs (h : AbsK w p) {ad : Option Addr} {n cap : Nat} : Ret Tryd.prog 17 [.pointer p, .slice ad n cap] w (fun v w' => v = .tuple #[I 0, I 1] ∧ w' = w) := by
  refine enter Tryd.call17 Tryd.func17 rfl rfl rfl rfl ?_
  (repeat first|refine zA ?_|refine zB ?_|refine zg ?_|refine zo rfl rfl trivial ?_|refine zn ?_)
  refine o_call (there_abs h) rfl rfl rfl ?_
  rintro v wx ⟨rfl, rfl⟩
  (repeat first|refine zA ?_|refine zg ?_|refine zo rfl rfl trivial ?_|refine zn ?_|refine zr ?_|refine zt rfl ?_)
  exact ⟨_, rfl, rfl, rfl⟩
theorem Warned_abs (h : AbsK w p) : Ret Tryd.prog 13 [.pointer p] w (fun v w' => v = .slice none 0 0 ∧ w' = w) := by
  refine enter Tryd.call13 Tryd.func13 rfl rfl rfl rfl ?_
  (repeat first|refine zA ?_|refine zB ?_|refine zg ?_|refine zo rfl rfl trivial ?_|refine zn ?_)
  refine o_call (there_abs h) rfl rfl rfl ?_
  rintro v wx ⟨rfl, rfl⟩
  (repeat first|refine zA ?_|refine zg ?_|refine zo rfl rfl trivial ?_|refine zn ?_|refine zr ?_|refine zt rfl ?_)
  exact ⟨_, rfl, rfl, rfl⟩
theorem Copy_abs (h : AbsK w p) : Ret Tryd.prog 23 [.pointer p] w (fun v w' => v = .pointer none ∧ w' = w) := by
  refine enter Tryd.call23 Tryd.func23 rfl rfl rfl rfl ?_
  (repeat first|refine zA ?_|refine zB ?_|refine zg ?_|refine zo rfl rfl trivial ?_|refine zn ?_)
  refine o_call (there_abs h) rfl rfl rfl ?_
  rintro v wx ⟨rfl, rfl⟩
  (repeat first|refine zA ?_|refine zg ?_|refine zo rfl rfl trivial ?_|refine zn ?_|refine zr ?_|refine zt rfl ?_)
  exact ⟨_, rfl, rfl, rfl⟩
end
end Go.Vc
/- Ranging over a map that stays as it is: the iterator's block; next, entry. -/
namespace Go.Vc
open Go
variable {P : Program} {n : Nat} {e : Env} {w : World} {K : Env → World → Prop} {all : List Oper} {G : List Nat} {ro : Option Nat}
variable {dst : Option Tmp} {ty : TypeId} {pos : String} {after : Array Edge} {g : Option (Nat × Bool)} {l : List Oper} {t : TypeId} {x : Operand}
/-- block r goes through the map m (entries es) and has handed out those seen -/
def ItM (w : World) (r m clock : Nat) (seen : Array Nat) : Prop := w.heap[r]? = some (.mapIter (some m) clock seen clock)
theorem ItM.kp {w' : World} {r m clock : Nat} {seen : Array Nat} {S : List Nat} (h : ItM w r m clock seen) (hk : Kp S w w') (hS : r ∉ S) : ItM w' r m clock seen := by
  unfold ItM; rw [hk.at_ r (Array.getElem?_eq_some_iff.1 h).1 hS]; exact h
theorem ItM.lt {r m clock : Nat} {seen : Array Nat} (h : ItM w r m clock seen) : r < w.heap.size := (Array.getElem?_eq_some_iff.1 h).1
theorem o_range {k v : TypeId} {m clock : Nat} {es : Array MapEntry} (hx : ev e x = .map (some m)) (hu : P.underlying t = some (.map k v)) (hb : w.heap[m]? = some (.map es clock)) (hd : dOk n dst = true) (hm : may all G e g = some true)
    (q : ∀ r w', r = w.heap.size → Kp [] w w' → ItM w' r m clock #[] → Ops ro P n all G K l (put e dst (.pointer (some ⟨r, 0, none⟩))) w') : Ops ro P n all G K (⟨dst, .range t x, ty, pos, after, g⟩ :: l) e w := by
  refine ops_does (v := .pointer (some ⟨w.heap.size, 0, none⟩)) (w' := w.alloc (.mapIter (some m) clock #[] clock)) hd hm ?_ (q _ _ rfl ((upd_alloc w _).kp [] (.inr (Nat.le_refl _))) (upd_alloc w _).at_)
  simp only [execOp, Sem.run_bind, hx, run_range_map w t k v m es clock hu hb, Result.andThen_ok, Sem.run_pure]
theorem o_next {m clock r : Nat} {seen : Array Nat} {es : Array MapEntry} (hx : ev e x = .pointer (some ⟨r, 0, none⟩)) (hr : ItM w r m clock seen) (hb : w.heap[m]? = some (.map es clock)) (ho : ∀ x ∈ es.toList, x.born < clock) (hd : dOk n dst = true) (hm : may all G e g = some true)
    (q0 : (leftOf es seen).size = 0 → Ops ro P n all G K l (put e dst (.tuple #[.bool false])) w)
    (q1 : ∀ y ∈ (leftOf es seen).toList, ∀ w', Kp [r] w w' → ItM w' r m clock (seen.push y.born) → Ops ro P n all G K l (put e dst (.tuple #[.bool true, y.key, y.val])) w') : Ops ro P n all G K (⟨dst, .next x false, ty, pos, after, g⟩ :: l) e w := by
  rcases run_next_at (P := P) w ty r m clock clock seen es clock hr hb ho (Nat.le_refl _) with ⟨h0, h1⟩ | ⟨y, hy, w1, hw1, h1⟩
  · refine ops_does hd hm ?_ (q0 h0)
    simp only [execOp, Sem.run_bind, hx, h1, Result.andThen_ok, Sem.run_pure]
  · have hr1 : ItM w1 r m clock seen := by rcases hw1 with rfl | rfl <;> exact hr
    have k1 : Kp [r] w w1 := by
      rcases hw1 with rfl | rfl
      · exact Kp.refl _ _
      · exact (Sm.drew w).kp _
    have hu : Upd w1 r (.mapIter (some m) clock (seen.push y.born) clock) (Go.ChangeMaps.setBlock w1 r (.mapIter (some m) clock (seen.push y.born) clock)) := upd_setObj hr1
    refine ops_does hd hm ?_ (q1 y hy _ (k1.trans (hu.kp [r] (.inl (by simp)))) hu.at_)
    simp only [execOp, Sem.run_bind, hx, h1, Result.andThen_ok, Sem.run_pure]
theorem o_entry {m clock r : Nat} {seen : Array Nat} {es : Array MapEntry} {y : MapEntry} (hx : ev e x = .pointer (some ⟨r, 0, none⟩)) (hr : ItM w r m clock (seen.push y.born)) (hb : w.heap[m]? = some (.map es clock)) (hy : y ∈ es.toList) (hn : (es.toList.map (·.born)).Nodup) (hd : dOk n dst = true) (hm : may all G e g = some true)
    (q : Ops ro P n all G K l (put e dst (.tuple #[y.key, y.val])) w) : Ops ro P n all G K (⟨dst, .entry x, ty, pos, after, g⟩ :: l) e w := by
  refine ops_does hd hm ?_ q
  simp only [execOp, Sem.run_bind, hx, run_entry_at w r m clock seen es clock y hr hb hy hn, Result.andThen_ok, Sem.run_pure]
end Go.Vc
