/- The document's Sorted. -/
import Derived.Test.YtghdpibdidfpbaaDoorQClNPlays25
import Derived.Test.YtghdpibdidfpbaaDoorQClNPlays26
import Derived.Test.YtghdpibdidfpbaaDoorQClNPlays22
import Derived.Test.YtghdpibdidfpbaaDoorQClNPlays20
import Derived.Laws.Externs
namespace Go.Vc
open Go Go.Proofs
set_option maxRecDepth 10000
variable {w : World} {q : Nat} {l : List Str} {ad : Option Addr} {cap : Nat}
abbrev LeN (l : List Str) (a b : Nat) : Prop := sl (l.getD b []) (l.getD a []) = false
theorem LeN.trans {l : List Str} {a b c : Nat} (h : LeN l a b) (k : LeN l b c) : LeN l a c := by
  unfold LeN at *
  cases h1 : sl (l.getD c []) (l.getD a []) with
  | false => rfl
  | true =>
    cases h3 : sl (l.getD b []) (l.getD c []) with
    | true => rw [sl_trans h3 h1] at h; cases h
    | false => rw [sl_tri k h3] at h1; rw [h1] at h; cases h
theorem gtN {s t : Str} : (!(Op.bytesLess s t || decide (s = t))) = true ↔ sl t s = true := by
  constructor
  · intro h
    rw [Bool.not_eq_true', Bool.or_eq_false_iff] at h
    cases h2 : sl t s with
    | true => rfl
    | false => exact absurd (sl_tri h.1 h2) (by simpa using h.2)
  · intro h
    rw [Bool.not_eq_true', Bool.or_eq_false_iff]
    constructor
    · cases h2 : Op.bytesLess s t with
      | false => rfl
      | true => have h3 := sl_trans (show sl s t = true from h2) h; rw [sl_irrefl] at h3; cases h3
    · rw [decide_eq_false_iff_not]
      rintro rfl
      rw [sl_irrefl] at h; cases h
theorem pw_put {R : Nat → Nat → Prop} {t1 t2 : List Nat} {x : Nat} (h : (t1 ++ t2).Pairwise R) (h1 : ∀ y ∈ t1, R y x) (h2 : ∀ y ∈ t2, R x y) : (t1 ++ x :: t2).Pairwise R := by
  obtain ⟨a, b, c⟩ := List.pairwise_append.1 h
  refine List.pairwise_append.2 ⟨a, List.pairwise_cons.2 ⟨h2, b⟩, fun z hz u hu => ?_⟩
  rcases List.mem_cons.1 hu with rfl | hu
  · exact h1 z hz
  · exact c z hz u hu
theorem drop_pred {s : List Nat} {k x : Nat} (h : s[k]? = some x) : s.drop k = x :: s.drop (k + 1) := by
  obtain ⟨hh, rfl⟩ := List.getElem?_eq_some_iff.1 h
  exact List.drop_eq_getElem_cons hh
theorem take_pred {s : List Nat} {k x : Nat} (h : s[k]? = some x) : s.take (k + 1) = s.take k ++ [x] := by
  rw [List.take_add_one, h]; rfl
set_option maxHeartbeats 6400000 in
theorem rsorted_ret {pv : Value} (hl : l.length ≤ 131072) (hp : ∃ p, pv = .pointer p) (hN : Ret Tryd.prog 29 [pv] w (fun v w' => ∃ ad' cap', v = .slice ad' l.length cap' ∧ NewS w 9 w' ad' l.length cap' (l.map S))) :
    Ret Tryd.prog 32 [pv] w (fun v w' => ∃ ad cap, ∃ out : List Nat, v = .slice ad out.length cap ∧ NewS w 3 w' ad out.length cap (out.map encJ) ∧ out.Perm (List.range l.length) ∧ out.Pairwise (LeN l)) := by
  obtain ⟨p, rfl⟩ := hp
  refine enter Tryd.call32 Tryd.func32 rfl rfl rfl rfl ?_
  (repeat first|refine zA ?_|refine zg ?_|refine zo rfl rfl trivial ?_|refine zn ?_)
  refine o_call hN rfl rfl rfl ?_
  rintro v w1 ⟨adN, capN, rfl, hnew⟩
  (repeat first|refine zA ?_|refine zB ?_|refine zg ?_|refine zo rfl rfl trivial ?_|refine zn ?_|refine zb ?_)
  refine r_loop (α := Nat × Option Addr × Nat) [3, 4, 5] (fun g => [.slice g.2.1 g.1 g.2.2, .slice adN l.length capN, I g.1])
    (fun g W => g.1 ≤ l.length ∧ ∃ s : List Nat, s.Perm (List.range g.1) ∧ s.Pairwise (LeN l) ∧ NewS w1 3 W g.2.1 g.1 g.2.2 (s.map encJ)) (fun g => l.length - g.1) (0, none, 0) rfl
    ⟨Nat.zero_le _, [], by simp, by simp, ⟨ownS_nil _ _ _, Kp.refl _ _, by simp [blkOf]⟩⟩ ?_
  rintro ⟨i, adO, capO⟩ e W ⟨hi, s, hperm, hsrt, hO⟩
  dsimp only at hi hperm hO ⊢
  have hsl : s.length = i := by rw [hperm.length_eq, List.length_range]
  have hmem : ∀ {j x : Nat}, s[j]? = some x → x < i := fun {j x} hx => List.mem_range.1 (hperm.subset (List.mem_of_getElem? hx))
  (repeat first|refine zA ?_|refine zB ?_|refine zg ?_|refine zo rfl rfl trivial ?_|refine zn ?_)
  refine r_if rfl (fun hc => ?_) (fun hc => ?_)
  · have hc : i < l.length := by omega
    obtain ⟨b, off, rfl, _, _⟩ := (hnew.own.kp hO.kp (by simp)).read.at_ (by simp; omega)
    have cell : ∀ {j : Nat}, j < l.length → ∀ W', Kp [] w1 W' → W'.cell? ⟨b, off + j, none⟩ = some (S (l.getD j [])) := fun {j} hj W' hk => by
      obtain ⟨b', off', he, _, hcc⟩ := (hnew.own.kp hk (by simp)).read.at_ (by simp; omega)
      cases he
      exact hcc j (S (l.getD j [])) (by rw [List.getElem?_map]; simp [hj])
    (repeat first|refine zA ?_|refine zC ?_|refine zg ?_|refine zo rfl rfl trivial ?_|refine zn ?_|refine zb ?_|refine zk ?_)
    refine r_loop (α := Nat) [3, 4, 5, 6] (fun k => [.slice adO i capO, .slice (some ⟨b, off, none⟩) l.length capN, I i, I k])
      (fun k W' => k ≤ i ∧ Kp [] W W' ∧ ∀ y ∈ s.drop k, LeN l i y) (fun k => k) i rfl ⟨Nat.le_refl _, Kp.refl _ _, by rw [List.drop_of_length_le (by omega)]; simp⟩ ?_
    rintro k e2 W2 ⟨hk, k2, hafter⟩
    have hO2 : NewS w1 3 W2 adO i capO (s.map encJ) := ⟨hO.own.kp k2 (by simp), hO.kp.trans k2, hO.new⟩
    refine r_seq ?_
    refine r_seq ?_
    refine r_cut (α := Bool) [3, 4, 5, 6, 34] (fun z => [.slice adO i capO, .slice (some ⟨b, off, none⟩) l.length capN, I i, I k, .bool z]) (fun z W' => Kp [] W2 W' ∧ (z = true → ∃ x, 0 < k ∧ s[k - 1]? = some x ∧ LeN l i x) ∧ (z = false → ∀ x, 0 < k → s[k - 1]? = some x → LeN l x i)) ?_ ?_
    · refine r_mix (fun W' => Kp [] W2 W') [(0, false), (1, false), (2, false), (3, false), (4, false), (5, false), (6, false), (7, false), (8, false), (9, false), (10, false), (11, false), (12, false), (13, false), (14, false), (15, false), (16, false)] follows_mixed (by kernel_rfl) (by kernel_rfl) (by kernel_rfl) ((Sm.drew _).kp _) ?_
      have kd := (Sm.drew W2).kp []
      generalize ({ W2 with drawn := W2.drawn + 1 } : World) = wd at kd ⊢
      by_cases hk0 : 0 < k
      · obtain ⟨x, hx⟩ : ∃ x, s[k - 1]? = some x := ⟨_, List.getElem?_eq_getElem (by omega)⟩
        have hxi := hmem hx
        obtain ⟨bo, hbo⟩ : ∃ bo, adO = some ⟨bo, 0, none⟩ := Dat.blk (w := W2) (xs := s) hO2.own (by omega)
        subst hbo
        (repeat refine xo rfl rfl trivial ?_)
        refine x_is true rfl 2 true rfl rfl rfl (by simp only [decide_eq_true_eq]; omega) ?_
        (repeat refine xo rfl rfl (by first|exact trivial|(simp only[AllP];omega)) ?_)
        refine x_load (b := bo) (off := k - 1) (v := I (x : Nat)) rfl (by exact ptr_eq (by omega)) (fun W' h' => Dat.get (xs := s) (hO2.own.kp h' (by simp)) hx) rfl rfl rfl rfl ?_
        (repeat refine xo rfl rfl (by first|exact trivial|(simp only[AllP];omega)) ?_)
        refine x_load (b := b) (off := off + x) (v := S (l.getD x [])) rfl rfl (fun W' h' => cell (by omega) W' (hO2.kp.trans h')) rfl rfl rfl rfl ?_
        (repeat refine xo rfl rfl (by first|exact trivial|(simp only[AllP];omega)) ?_)
        refine x_load (b := b) (off := off + i) (v := S (l.getD i [])) rfl rfl (fun W' h' => cell hc W' (hO2.kp.trans h')) rfl rfl rfl rfl ?_
        (repeat first|refine xo rfl rfl trivial ?_|refine xn ?_)
        refine ⟨!(Op.bytesLess (l.getD x []) (l.getD i []) || decide (l.getD x [] = l.getD i [])), rfl, kd, fun hz => ?_, fun hz y _ hy => ?_⟩
        · refine ⟨x, hk0, hx, ?_⟩
          have := gtN.1 hz
          unfold LeN
          cases h2 : sl (l.getD x []) (l.getD i []) with
          | false => rfl
          | true => have h3 := sl_trans h2 this; rw [sl_irrefl] at h3; cases h3
        · rw [hx] at hy
          cases hy
          unfold LeN
          cases h2 : sl (l.getD i []) (l.getD x []) with
          | false => rfl
          | true => rw [gtN.2 h2] at hz; cases hz
      · (repeat refine xo rfl rfl trivial ?_)
        refine x_is false rfl 2 true rfl rfl rfl (by simp only [decide_eq_false_iff_not]; omega) ?_
        (repeat first|refine xo rfl rfl trivial ?_|refine xn ?_)
        exact ⟨false, rfl, kd, (fun h => by cases h), fun _ x h0 => absurd h0 hk0⟩
    · rintro z e3 W3 ⟨k3, hz1, hz0⟩
      have hO3 : NewS w1 3 W3 adO i capO (s.map encJ) := ⟨hO2.own.kp k3 (by simp), hO2.kp.trans k3, hO2.new⟩
      cases z with
      | true =>
        obtain ⟨x, hk0, hx, hle⟩ := hz1 rfl
        (repeat first|refine zg ?_|refine zo rfl rfl (by first|exact trivial|(simp only[AllP];omega)) ?_|refine zn ?_|refine zb ?_|refine zk ?_|refine zt rfl ?_)
        refine ⟨k - 1, by show [_, _, _, I ((k : Int) - 1)] = [_, _, _, I ((k - 1 : Nat) : Int)]; rw [show (k : Int) - 1 = ((k - 1 : Nat) : Int) by omega]; rfl, ⟨by omega, k2.trans k3, fun y hy => ?_⟩, by omega⟩
        rw [drop_pred hx, show k - 1 + 1 = k by omega] at hy
        rcases List.mem_cons.1 hy with rfl | hy
        · exact hle
        · exact hafter y hy
      | false =>
        have hbef : ∀ y ∈ s.take k, LeN l y i := fun y hy => by
          by_cases hk0 : 0 < k
          · obtain ⟨x, hx⟩ : ∃ x, s[k - 1]? = some x := ⟨_, List.getElem?_eq_getElem (by omega)⟩
            have hxi := hz0 rfl x hk0 hx
            obtain ⟨j, hj, hjy⟩ := take_mem hy
            by_cases c : j = k - 1
            · subst c; rw [hx] at hjy; cases hjy; exact hxi
            · obtain ⟨p1, q1⟩ := List.getElem?_eq_some_iff.1 hjy
              obtain ⟨p2, q2⟩ := List.getElem?_eq_some_iff.1 hx
              have := List.pairwise_iff_getElem.1 hsrt j (k - 1) p1 p2 (by omega)
              rw [q1, q2] at this
              exact LeN.trans this hxi
          · have : k = 0 := by omega
            subst this; simp at hy
        (repeat first|refine zA ?_|refine zg ?_|refine zo rfl rfl trivial ?_|refine ze rfl ?_|refine zf rfl ?_)
        refine o_buildSlice [I 0] rfl (by simp [Value.oneCell']) rfl (by decide) (by decide) rfl rfl rfl rfl rfl ?_
        intro b9 W5 hb9 hu5
        have kk5 : Kp [] W3 W5 := hu5.kp [] (.inr (by omega))
        refine o_append1 rfl rfl (hO3.own.kp kk5 (by simp)) hu5.blk rfl rfl rfl rfl (by simp only [maxLen]; omega) (by omega) rfl rfl ?_
        intro ad6 cap6 W6 ho6 kk6 hnew6
        have hN6 := hO3.push kk5 ho6 kk6 hnew6
        have hD6 : Dat W6 ad6 (i + 1) cap6 (s.take i ++ 0 :: s.drop i) := by
          rw [List.take_of_length_le (by omega), List.drop_of_length_le (by omega)]
          unfold Dat
          rw [List.map_append]
          exact ho6
        obtain ⟨b6, hb6⟩ := hD6.blk (by omega)
        subst hb6
        have hnew6' : ∀ b, b ∈ blkOf (some (⟨b6, 0, none⟩ : Addr)) → w1.heap.size ≤ b := hN6.new
        (repeat first|refine zA ?_|refine zB ?_|refine zg ?_|refine zo rfl rfl (by first|exact trivial|(simp only[AllP];omega)) ?_|refine zn ?_|refine zb ?_)
        refine r_loop (α := Nat) [3, 4, 5, 6, 7] (fun j => [.slice (some ⟨b6, 0, none⟩) (i + 1) cap6, .slice (some ⟨b, off, none⟩) l.length capN, I i, I k, I j])
          (fun j W' => k ≤ j ∧ j ≤ i ∧ Kp [] w1 W' ∧ ∃ y, Dat W' (some ⟨b6, 0, none⟩) (i + 1) cap6 (s.take j ++ y :: s.drop j)) (fun j => j) i ?_ ⟨hk, Nat.le_refl _, hN6.kp, 0, hD6⟩ ?_
        · show [_, _, _, _, I (((i + 1 : Nat) : Int) - 1)] = [_, _, _, _, I (i : Int)]
          rw [show ((i + 1 : Nat) : Int) - 1 = (i : Int) by omega]; rfl
        rintro j e4 W7 ⟨hkj, hji, k7, y, hD7⟩
        (repeat first|refine zA ?_|refine zB ?_|refine zg ?_|refine zo rfl rfl trivial ?_|refine zn ?_)
        refine r_if rfl (fun hc2 => ?_) (fun hc2 => ?_)
        · have hc2 : k < j := by omega
          obtain ⟨x, hx⟩ : ∃ x, s[j - 1]? = some x := ⟨_, List.getElem?_eq_getElem (by omega)⟩
          have htj : s.take j = s.take (j - 1) ++ [x] := by
            have := take_pred hx
            rwa [show j - 1 + 1 = j by omega] at this
          have hdj : s.drop (j - 1) = x :: s.drop j := by
            have := drop_pred hx
            rwa [show j - 1 + 1 = j by omega] at this
          have hlt : (s.take (j - 1)).length = j - 1 := by simp; omega
          have hD7' : Dat W7 (some ⟨b6, 0, none⟩) (i + 1) cap6 (s.take (j - 1) ++ x :: y :: s.drop j) := by rw [htj] at hD7; simpa using hD7
          (repeat first|refine zC ?_|refine zg ?_|refine zo rfl rfl (by first|exact trivial|(simp only[AllP];omega)) ?_|refine zb ?_|refine zk ?_)
          refine o_loadc (v := I (x : Nat)) rfl (by rw [show ((j : Int) - 1).toNat = j - 1 by omega, Nat.zero_add]; exact Dat.get hD7' (by rw [show j - 1 = (s.take (j - 1)).length from hlt.symm]; simp)) rfl rfl rfl rfl ?_
          (repeat refine zo rfl rfl (by first|exact trivial|(simp only[AllP];omega)) ?_)
          obtain ⟨L1, hL1, hi1, hw1⟩ := Dat.wr hD7' (i := j) (by omega)
          refine o_store (b := b6) (off := j) (v := I (x : Nat)) (by exact ptr_eq (by omega)) hL1 hi1 rfl rfl rfl rfl rfl rfl ?_
          intro W8 hu8
          have hD8 := hw1 x W8 hu8
          have hset : (s.take (j - 1) ++ x :: y :: s.drop j).set j x = s.take (j - 1) ++ x :: s.drop (j - 1) := by
            rw [hdj, List.set_append_right _ _ (by omega), hlt, show j - (j - 1) = 1 by omega]; rfl
          rw [hset] at hD8
          (repeat first|refine zg ?_|refine zo rfl rfl (by first|exact trivial|(simp only[AllP];omega)) ?_|refine zn ?_)
          refine ⟨j - 1, by show [_, _, _, _, I ((j : Int) - 1)] = [_, _, _, _, I ((j - 1 : Nat) : Int)]; rw [show (j : Int) - 1 = ((j - 1 : Nat) : Int) by omega]; rfl, ⟨by omega, by omega, k7.since (hu8.kp [b6] (.inl (by simp))) (by simpa [blkOf] using hnew6'), x, hD8⟩, by omega⟩
        · have hjk : j = k := by omega
          subst hjk
          have hlt : (s.take j).length = j := by simp; omega
          (repeat first|refine zg ?_|refine zo rfl rfl (by first|exact trivial|(simp only[AllP];omega)) ?_|refine ze rfl ?_)
          obtain ⟨L1, hL1, hi1, hw1⟩ := Dat.wr hD7 (i := j) (by omega)
          refine o_store (b := b6) (off := j) (v := I (i : Nat)) (by exact ptr_eq (by omega)) hL1 hi1 rfl rfl rfl rfl rfl rfl ?_
          intro W8 hu8
          have hD8 := hw1 i W8 hu8
          have hset : (s.take j ++ y :: s.drop j).set j i = s.take j ++ i :: s.drop j := by
            rw [List.set_append_right _ _ (by omega), hlt, Nat.sub_self]; rfl
          rw [hset] at hD8
          (repeat first|refine zg ?_|refine zo rfl rfl (by first|exact trivial|(simp only[AllP];omega)) ?_|refine zn ?_)
          refine ⟨(i + 1, some ⟨b6, 0, none⟩, cap6), rfl, ⟨by dsimp only; omega, s.take j ++ i :: s.drop j, ?_, pw_put (by rw [List.take_append_drop]; exact hsrt) hbef hafter, ⟨hD8, k7.since (hu8.kp [b6] (.inl (by simp))) (by simpa [blkOf] using hnew6'), hnew6'⟩⟩, by dsimp only; omega⟩
          refine List.perm_middle.trans ?_
          rw [List.take_append_drop, List.range_succ]
          exact (List.perm_append_comm (l₁ := [i])).trans (hperm.append_right _)
  · have hi : i = l.length := by omega
    subst hi
    (repeat first|refine zA ?_|refine zg ?_|refine zo rfl rfl trivial ?_|refine zn ?_|refine ze rfl ?_|refine zr ?_)
    exact ⟨_, rfl, adO, capO, s, by rw [hsl], by rw [hsl]; exact hO.since hnew.kp, hperm, hsrt⟩
end Go.Vc
/- names: Copy. -/
namespace Go.Vc
open Go Go.Proofs
set_option maxRecDepth 10000
section
variable {P : Program} {n : Nat} {e : Env} {w : World} {K : Env → World → Prop} {all : List Oper} {G : List Nat} {ro : Option Nat}
variable {dst : Option Tmp} {ty : TypeId} {pos : String} {after : Array Edge} {g : Option (Nat × Bool)} {l : List Oper} {t xT : TypeId} {x y : Operand}
theorem o_mkIfMapN {k v : TypeId} {u : Value} (hx : ev e x = u) (hu : P.underlying t = some (.map k v)) (hd : dOk n dst = true) (hm : may all G e g = some true)
    (q : Ops ro P n all G K l (put e dst (.iface t u)) w) : Ops ro P n all G K (⟨dst, .makeInterface t x, ty, pos, after, g⟩ :: l) e w :=
  ops_does hd hm (by simp [execOp, Instr.makeInterface, hx, run_underlying hu]) q
theorem o_asMapN {k v : TypeId} {u : Value} (hx : ev e x = .iface t u) (hu : P.underlying t = some (.map k v)) (hd : dOk n dst = true) (hm : may all G e g = some true)
    (q : Ops ro P n all G K l (put e dst u) w) : Ops ro P n all G K (⟨dst, .typeAssert x xT t false, ty, pos, after, g⟩ :: l) e w :=
  ops_does hd hm (by simp [execOp, Instr.typeAssert, hx, run_underlying hu, Result.andThen]) q
/-- maps.clone: a new block with the same entries -/
theorem o_mapsCloneE {f : FuncId} {fn : Func} {m clock : Nat} {es : Array MapEntry} {args : Array Operand} {ts : Array TypeId} {iT : TypeId} (hf : P.funcs[f]? = some fn) (hname : (fn.name == "runtime.NumGoroutine") = false)
    (hb : fn.body.isNone = true) (hn : Extern.findNext fn = none) (he : Extern.find fn = some Extern.MapsClone.clone) (ha : args.toList.map (ev e) = [.iface iT (.map (some m))]) (h1 : w.heap[m]? = some (.map es clock))
    (hd : dOk n dst = true) (hm : may all G e g = some true)
    (q : ∀ b w', b = w.heap.size → Kp [] w w' → w'.heap[b]? = some (.map es clock) → w'.heap.size = w.heap.size + 1 → Ops ro P n all G K l (put e dst (.iface iT (.map (some b)))) w') : Ops ro P n all G K (⟨dst, .call ⟨.value (.func f), args, ts⟩, ty, pos, after, g⟩ :: l) e w := by
  refine ops_does (v := .iface iT (.map (some w.heap.size))) (w' := w.alloc (.map es clock)) hd hm ?_ (q _ _ rfl ((upd_alloc w _).kp [] (.inr (Nat.le_refl _))) (upd_alloc w _).at_ (World.size_alloc w _))
  have e1 : args.map (ev e) = #[.iface iT (.map (some m))] := by apply Array.ext'; simp [ha]
  have hg : (getObj m).run P w = .ok (.map es clock) w := by simp [getObj, Sem.run, h1]
  have e2 : (Extern.MapsClone.clone #[.iface iT (.map (some m))]).run P w = .ok (.iface iT (.map (some w.heap.size))) (w.alloc (.map es clock)) := by
    have q : Extern.MapsClone.clone #[.iface iT (.map (some m))] = (getObj m >>= fun o => match o with
      | .map entries clock => (newObj (.map entries clock) >>= fun n => pure (.iface iT (.map (some n))))
      | _ => stuck "maps.clone: a map expected") := rfl
    rw [q]
    simp [hg, Result.andThen, go_sem]
  have e3 := run_callFunc_extern hf hname hb hn he #[.iface iT (.map (some m))] w
  rw [e2] at e3
  simp only [execOp, resolve, Sem.run_bind, ev, Deferred.ofValue, Sem.run_pure, Result.andThen_ok, invoke]
  simp only [e1, Array.append_empty, Array.empty_append]
  exact e3
end
variable {w : World}
theorem mclone_ret {m clock : Nat} {es : Array MapEntry} (h : w.heap[m]? = some (.map es clock)) : Ret Tryd.prog 61 [.map (some m)] w (fun v w' => ∃ b, v = .map (some b) ∧ w.heap.size ≤ b ∧ w'.heap[b]? = some (.map es clock) ∧ Kp [] w w') := by
  refine enter Tryd.call61 Tryd.func61 rfl rfl rfl rfl ?_
  (repeat first|refine zA ?_|refine zB ?_|refine zg ?_|refine zo rfl rfl trivial ?_|refine zn ?_|refine zk ?_|refine zf rfl ?_)
  refine o_mkIfMapN rfl rfl rfl rfl ?_
  refine o_mapsCloneE Tryd.func76 (by kernel_rfl) (by kernel_rfl) (by kernel_rfl) (by kernel_rfl) rfl h rfl rfl ?_
  intro b w1 hb k1 h1 hs1
  refine o_asMapN rfl rfl rfl rfl ?_
  (repeat first|refine zo rfl rfl trivial ?_|refine zn ?_|refine zr ?_)
  exact ⟨_, rfl, b, rfl, by omega, h1, k1⟩
variable {p : Nat} {fp : List Nat} {l : List Str} {m : Nat} {ad : Option Addr} {cap : Nat}
theorem ncopy_ret (h : Tab w p fp l m ad cap) : Ret Tryd.prog 51 [ptr p] w (fun v w' => ∃ p' fp' m' ad' cap', v = ptr p' ∧ Tab w' p' fp' l m' ad' cap' ∧ Kp [] w w' ∧ ∀ b, b ∈ fp' → w.heap.size ≤ b) := by
  have hfew := h.few
  refine enter Tryd.call51 Tryd.func51 rfl rfl rfl rfl ?_
  (repeat first|refine zA ?_|refine zB ?_|refine zg ?_|refine zo rfl rfl trivial ?_|refine zn ?_)
  refine o_call (there_ret h) rfl rfl rfl ?_
  rintro v w' ⟨rfl, rfl⟩
  (repeat first|refine zo rfl rfl trivial ?_|refine zn ?_|refine zk ?_|refine zf rfl ?_)
  refine r_seq ?_
  refine r_mix (fun W' => Tab W' p fp l m ad cap) [(0, false), (1, false), (2, false), (3, false), (5, false), (6, false), (7, false), (8, false), (4, true), (9, true), (10, false), (11, true), (12, false)] follows_mixed (by kernel_rfl) (by kernel_rfl) (by kernel_rfl) (h.sm (Sm.drew _)) ?_
  have kd := (Sm.drew w').kp []
  generalize ({ w' with drawn := w'.drawn + 1 } : World) = wd at kd ⊢
  have hd := h.kp kd (by simp)
  (repeat refine xo rfl rfl trivial ?_)
  refine x_load (b := p) (off := 0) (v := .slice ad l.length cap) rfl rfl (fun W' h' => Blk.cell h'.hdr rfl) rfl rfl rfl rfl ?_
  (repeat refine xo rfl rfl trivial ?_)
  refine x_load (b := p) (off := 1) (v := .map (some m)) rfl rfl (fun W' h' => Blk.cell h'.hdr rfl) rfl rfl rfl rfl ?_
  refine x_act rfl ?_
  refine o_call (CloneS_ret hd.own.read (by omega) (by simp only [maxLen]; omega)) rfl rfl rfl ?_
  rintro v w1 ⟨ad1, cap1, rfl, hn1⟩
  have h1 := hd.kp hn1.kp (by simp)
  refine o_nil ⟨.inr h1, ?_⟩
  refine x_act rfl ?_
  refine o_call (mclone_ret h1.mp) rfl rfl rfl ?_
  rintro v w2 ⟨bm, rfl, hbm, hM2, k2⟩
  have h2 := h1.kp k2 (by simp)
  refine o_nil ⟨.inr h2, ?_⟩
  refine x_build [.slice ad1 l.length cap1, .map (some bm)] rfl rfl rfl rfl rfl rfl rfl rfl ?_
  refine x_act rfl ?_
  refine o_box rfl rfl rfl ?_
  intro bp w3 hbp hu3
  have k3 : Kp [] w2 w3 := hu3.kp [] (.inr (by omega))
  have s1 := hn1.kp.size
  have s2 := k2.size
  have sd := kd.size
  refine o_nil ⟨.inr (h2.kp k3 (by simp)), ?_⟩
  (repeat first|refine xo rfl rfl trivial ?_|refine xn ?_)
  (repeat refine zr ?_)
  have ho3 := (hn1.own.kp k2 (by simp)).kp k3 (by simp)
  have hM3 : w3.heap[bm]? = some (.map ⟨tabE l 0⟩ l.length) := (k3.at_ bm (Array.getElem?_eq_some_iff.1 hM2).1 (by simp)).trans hM2
  refine ⟨_, rfl, bp, bp :: bm :: blkOf ad1, bm, ad1, cap1, rfl, ⟨hu3.blk, ho3, hM3, rfl, hfew⟩, ((kd.trans hn1.kp).trans k2).trans k3, fun b hb => ?_⟩
  simp only [List.mem_cons] at hb
  rcases hb with rfl | rfl | hb
  · omega
  · omega
  · have := hn1.new b hb; omega
end Go.Vc
