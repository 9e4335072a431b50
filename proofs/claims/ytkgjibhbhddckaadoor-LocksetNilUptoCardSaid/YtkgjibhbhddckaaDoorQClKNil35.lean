/- rows of events. -/
import Derived.Test.YtkgjibhbhddckaaDoorQClKNil26
import Derived.Test.YtkgjibhbhddckaaDoorQClKNil34
import Derived.Test.YtkgjibhbhddckaaDoorQClKNil25
import Derived.Laws.StructEq
namespace Go.Vc
open Go Go.Proofs
def evsC (l : List Ev) : List Value := l.flatMap evC
theorem evsC_len (l : List Ev) : (evsC l).length = l.length * 3 := by
  induction l with
  | nil => rfl
  | cons x r ih => unfold evsC at *; rw [List.flatMap_cons, List.length_append, ih]; simp [evC]; omega
theorem evsC_get : ∀ {l : List Ev} {i : Nat} {x : Ev}, l[i]? = some x → ∀ j v, (evC x)[j]? = some v → (evsC l)[i * 3 + j]? = some v
  | [], i, x, h, _, _, _ => by simp at h
  | y :: r, 0, x, h, j, v, hv => by
    simp at h; subst h
    have e1 : evsC (y :: r) = evC y ++ evsC r := by simp [evsC]
    rw [e1, Nat.zero_mul, Nat.zero_add, List.getElem?_append_left ((List.getElem?_eq_some_iff.1 hv).1)]
    exact hv
  | y :: r, i + 1, x, h, j, v, hv => by
    have ih := evsC_get (l := r) (i := i) (x := x) (by simpa using h) j v hv
    have e1 : evsC (y :: r) = evC y ++ evsC r := by simp [evsC]
    have l3 : (evC y).length = 3 := rfl
    rw [e1, List.getElem?_append_right (by omega)]
    have e2 : (i + 1) * 3 + j - (evC y).length = i * 3 + j := by omega
    rw [e2]; exact ih
end Go.Vc
/- lockset: Events; lives. -/
namespace Go.Vc
open Go Go.Proofs
set_option maxRecDepth 10000
variable {w : World}
section
variable {g : KG} {s : Shp} {c : Ck}
/-- the state of a keeper, plainly -/
structure LS where
  c : Ck
  H : Int → List Nat
  V : List LV
def LS.VOk (S : LS) : Prop := ∀ v ∈ S.V, Go.Vc.VOk v
def stepL (S : LS) (e : Ev) (s : Shp) : LS := ⟨nextC s S.c e, eventH S.H e, eventV S.V (S.H e.t) e S.c.n⟩
theorem accL_ok {v : LV} {e : Ev} {h : List Nat} {a : Int} (hv : Go.Vc.VOk v) : Go.Vc.VOk (accL v e h a) := by
  have hw : ∀ u : LV, Go.Vc.VOk u → Go.Vc.VOk (warnL u a) := fun u hu => by unfold warnL; split <;> exact hu
  have hs : ∀ u : LV, (u.ph = 2 ∨ u.ph = 3) → u.ca.isSome = true → Go.Vc.VOk (sharedL u e h a) := fun u h1 h2 => by
    unfold sharedL
    apply hw
    refine .inr (.inr ⟨?_, by simpa using h2⟩)
    dsimp only
    split
    · exact .inr rfl
    · exact h1
  unfold accL
  dsimp only
  split
  · exact .inr (.inl rfl)
  · split
    · split
      · exact hv
      · exact hs _ (.inl rfl) rfl
    · rename_i h0 h1
      rcases hv with q | q | ⟨q1, q2⟩
      · exact absurd q h0
      · exact absurd q h1
      · exact hs _ q1 q2
theorem stepL_ok {S : LS} {e : Ev} {s : Shp} (h : S.VOk) : (stepL S e s).VOk := by
  intro v hv
  simp only [stepL, eventV] at hv
  split at hv
  · split at hv
    · rename_i u hu
      rcases List.mem_or_eq_of_mem_set hv with hv | rfl
      · exact h v hv
      · exact accL_ok (h u (List.mem_of_getElem? hu))
    · exact h v hv
  · exact h v hv
structure KS (w : World) (g : KG) (s : Shp) (S : LS) : Prop where
  at_ : KAt w g s S.c
  H : ∀ t, oL (g.H t) = S.H t
  V : g.vars.map varM = S.V
theorem KS.kp0 {S : LS} (h : KS w g s S) {w' : World} (hk : Kp [] w w') : KS w' g s S := ⟨h.at_.kp0 hk, h.H, h.V⟩
theorem Event_S {S : LS} (h : KS w g s S) (hv : S.VOk) (hn : S.c.n ≤ 4611686018427387904) (e : Ev) :
    Ret Tryd.prog 9 [ptr g.kp, .agg ⟨evC e⟩] w (fun v w' => (canB s S.c e = true ∧ v = I 0 ∧ ∃ g', KS w' g' s (stepL S e s) ∧ KTo w g w' g') ∨ (canB s S.c e = false ∧ v = I 6 ∧ Kp [] w w')) := by
  refine (kEvent_ret h.at_ hn (fun x hx => hv _ (by rw [← h.V]; exact List.mem_map.2 ⟨x, hx, rfl⟩)) e).mono fun v w' hh => ?_
  rcases hh with ⟨h1, h2, g', h3, h4, h5, h6⟩ | hh
  · refine .inl ⟨h1, h2, g', ⟨h3, fun t => ?_, ?_⟩, h4⟩
    · rw [h5]
      have : (fun t => oL (g.H t)) = S.H := funext h.H
      rw [this]; rfl
    · rw [h6, h.V, h.H]; rfl
  · exact .inr hh
/-- behind so many events -/
def runN (s : Shp) (S : LS) (l : List Ev) (i : Nat) : LS := (l.take i).foldl (fun S e => stepL S e s) S
theorem runN_succ {s : Shp} {S : LS} {l : List Ev} {i : Nat} {e : Ev} (h : l[i]? = some e) : runN s S l (i + 1) = stepL (runN s S l i) e s := by
  unfold runN
  rw [List.take_add_one, h, List.foldl_append]; rfl
theorem runN_n {s : Shp} {S : LS} {l : List Ev} : ∀ i, i ≤ l.length → (runN s S l i).c.n = S.c.n + i
  | 0, _ => rfl
  | i + 1, h => by
    obtain ⟨e, he⟩ : ∃ e, l[i]? = some e := ⟨_, List.getElem?_eq_getElem (by omega)⟩
    rw [runN_succ he]
    have := runN_n (s := s) (S := S) (l := l) i (by omega)
    show (nextC s (runN s S l i).c e).n = _
    rw [nextC_n, this]; omega
theorem runN_ok {s : Shp} {S : LS} {l : List Ev} (h : S.VOk) : ∀ i, i ≤ l.length → (runN s S l i).VOk
  | 0, _ => h
  | i + 1, hi => by
    obtain ⟨e, he⟩ : ∃ e, l[i]? = some e := ⟨_, List.getElem?_eq_getElem (by omega)⟩
    rw [runN_succ he]
    exact stepL_ok (runN_ok h i (by omega))
set_option maxHeartbeats 1600000 in
theorem Events_S {S : LS} (h : KS w g s S) (hv : S.VOk) (hn : S.c.n ≤ 2305843009213693952) {ad : Option Addr} {l : List Ev} {cap : Nat} (hr : ReadS w ad (evsC l)) (hin : ∀ b, b ∈ blkOf ad → ¬ g.In b) (hl : l.length ≤ 1048576) :
    Ret Tryd.prog 17 [ptr g.kp, .slice ad l.length cap] w (fun v w' => ∃ k g', k ≤ l.length ∧ v = .tuple #[I k, I (if k = l.length then 0 else 6)] ∧ KS w' g' s (runN s S l k) ∧ KTo w g w' g' ∧ (∀ j e, j < k → l[j]? = some e → canB s (runN s S l j).c e = true) ∧ ∀ e, l[k]? = some e → canB s (runN s S l k).c e = false) := by
  refine enter Tryd.call17 Tryd.func17 rfl rfl rfl rfl ?_
  (repeat first|refine zA ?_|refine zB ?_|refine zC ?_|refine zD ?_|refine zE ?_|refine zg ?_|refine zo rfl rfl (by first|exact trivial|(simp only[AllP];omega)|(simp(discharger:=omega)only[AllP,cA,cB];omega)|(simp only[AllP,cC,cD,cE,cF,cG];omega)) ?_|refine zn ?_|refine zb ?_|refine ze rfl ?_|refine zr ?_|refine zk ?_|refine zT rfl rfl rfl ?_|refine zU rfl rfl rfl ?_|refine zV rfl rfl rfl ?_|refine zf rfl ?_|refine zt rfl ?_)
  refine o_call (kthere_ret h.at_) rfl rfl rfl ?_
  rintro v wx ⟨rfl, rfl⟩
  (repeat first|refine zA ?_|refine zB ?_|refine zC ?_|refine zD ?_|refine zE ?_|refine zg ?_|refine zo rfl rfl (by first|exact trivial|(simp only[AllP];omega)|(simp(discharger:=omega)only[AllP,cA,cB];omega)|(simp only[AllP,cC,cD,cE,cF,cG];omega)) ?_|refine zn ?_|refine zb ?_|refine ze rfl ?_|refine zr ?_|refine zk ?_|refine zT rfl rfl rfl ?_|refine zU rfl rfl rfl ?_|refine zV rfl rfl rfl ?_|refine zf rfl ?_|refine zt rfl ?_)
  refine r_loop (α := Nat) [0, 1, 12, 13, 14] (fun i => [ptr g.kp, .slice ad l.length cap, .slice ad l.length cap, I l.length, I i]) (fun i w1 => (∃ g', KS w1 g' s (runN s S l i) ∧ KTo wx g w1 g') ∧ i ≤ l.length ∧ (∀ j e, j < i → l[j]? = some e → canB s (runN s S l j).c e = true)) (fun i => l.length - i) 0 rfl ⟨⟨g, h, KTo.refl _ _⟩, by omega, fun j e hj => by omega⟩ ?_
  rintro i e w1 ⟨⟨g1, h1, t1⟩, hi, hok⟩
  (repeat first|refine zA ?_|refine zB ?_|refine zC ?_|refine zD ?_|refine zE ?_|refine zg ?_|refine zo rfl rfl (by first|exact trivial|(simp only[AllP];omega)|(simp(discharger:=omega)only[AllP,cA,cB];omega)|(simp only[AllP,cC,cD,cE,cF,cG];omega)) ?_|refine zn ?_|refine zb ?_|refine ze rfl ?_|refine zr ?_|refine zk ?_|refine zT rfl rfl rfl ?_|refine zU rfl rfl rfl ?_|refine zV rfl rfl rfl ?_|refine zf rfl ?_|refine zt rfl ?_)
  refine r_if rfl (fun hc => ?_) (fun hc => ?_)
  · have hlt : i < l.length := by omega
    obtain ⟨x, hx⟩ : ∃ x, l[i]? = some x := ⟨_, List.getElem?_eq_getElem hlt⟩
    obtain ⟨b, off, rfl, hb, hcell⟩ := hr.at_ (by rw [evsC_len]; omega)
    have hkeep := t1.kq.at_ b hb (hin b (by simp [blkOf]))
    (repeat first|refine zA ?_|refine zB ?_|refine zC ?_|refine zD ?_|refine zE ?_|refine zg ?_|refine zo rfl rfl (by first|exact trivial|(simp only[AllP];omega)|(simp(discharger:=omega)only[AllP,cA,cB];omega)|(simp only[AllP,cC,cD,cE,cF,cG];omega)) ?_|refine zn ?_|refine zb ?_|refine ze rfl ?_|refine zr ?_|refine zk ?_|refine zT rfl rfl rfl ?_|refine zU rfl rfl rfl ?_|refine zV rfl rfl rfl ?_|refine zf rfl ?_|refine zt rfl ?_)
    refine o_loadA (vs := evC x) rfl (fun j v hv => ?_) rfl rfl rfl rfl rfl rfl ?_
    · have h2 := hcell _ _ (evsC_get hx j v hv)
      rw [Int.toNat_natCast, Nat.add_assoc, ← h2]
      exact World.cell?_of_block hkeep
    (repeat first|refine zA ?_|refine zB ?_|refine zC ?_|refine zD ?_|refine zE ?_|refine zg ?_|refine zo rfl rfl (by first|exact trivial|(simp only[AllP];omega)|(simp(discharger:=omega)only[AllP,cA,cB];omega)|(simp only[AllP,cC,cD,cE,cF,cG];omega)) ?_|refine zn ?_|refine zb ?_|refine ze rfl ?_|refine zr ?_|refine zk ?_|refine zT rfl rfl rfl ?_|refine zU rfl rfl rfl ?_|refine zV rfl rfl rfl ?_|refine zf rfl ?_|refine zt rfl ?_)
    refine o_alloc rfl rfl rfl rfl ?_
    intro be w2 hbe hu2
    (repeat first|refine zA ?_|refine zB ?_|refine zC ?_|refine zD ?_|refine zE ?_|refine zg ?_|refine zo rfl rfl (by first|exact trivial|(simp only[AllP];omega)|(simp(discharger:=omega)only[AllP,cA,cB];omega)|(simp only[AllP,cC,cD,cE,cF,cG];omega)) ?_|refine zn ?_|refine zb ?_|refine ze rfl ?_|refine zr ?_|refine zk ?_|refine zT rfl rfl rfl ?_|refine zU rfl rfl rfl ?_|refine zV rfl rfl rfl ?_|refine zf rfl ?_|refine zt rfl ?_)
    refine o_storeA (cs := evC x) rfl hu2.blk (Nat.le_refl _) rfl (by simp [Value.oneCell']) rfl rfl rfl rfl ?_
    intro w3 hu3
    have k3 : Kp [] w1 w3 := (hu2.kp [] (.inr (by omega))).since (hu3.kp [be] (.inl (by simp))) (by simp; omega)
    have hB3 : Blk w3 be (evC x) 35 := hu3.blk
    (repeat first|refine zA ?_|refine zB ?_|refine zC ?_|refine zD ?_|refine zE ?_|refine zg ?_|refine zo rfl rfl (by first|exact trivial|(simp only[AllP];omega)|(simp(discharger:=omega)only[AllP,cA,cB];omega)|(simp only[AllP,cC,cD,cE,cF,cG];omega)) ?_|refine zn ?_|refine zb ?_|refine ze rfl ?_|refine zr ?_|refine zk ?_|refine zT rfl rfl rfl ?_|refine zU rfl rfl rfl ?_|refine zV rfl rfl rfl ?_|refine zf rfl ?_|refine zt rfl ?_)
    refine o_loadA (vs := evC x) rfl (fun j v hv => by rw [Nat.zero_add]; exact hB3.cell hv) rfl rfl rfl rfl rfl rfl ?_
    (repeat first|refine zA ?_|refine zB ?_|refine zC ?_|refine zD ?_|refine zE ?_|refine zg ?_|refine zo rfl rfl (by first|exact trivial|(simp only[AllP];omega)|(simp(discharger:=omega)only[AllP,cA,cB];omega)|(simp only[AllP,cC,cD,cE,cF,cG];omega)) ?_|refine zn ?_|refine zb ?_|refine ze rfl ?_|refine zr ?_|refine zk ?_|refine zT rfl rfl rfl ?_|refine zU rfl rfl rfl ?_|refine zV rfl rfl rfl ?_|refine zf rfl ?_|refine zt rfl ?_)
    have h3 := h1.kp0 k3
    have hn3 := runN_n (s := s) (S := S) (l := l) i hi
    have ek : ptr g.kp = ptr g1.kp := by rw [t1.kp]
    refine o_call (vs := [ptr g1.kp, .agg ⟨evC x⟩]) (Event_S h3 (runN_ok hv i hi) (by omega) x) (by rw [← ek]; rfl) rfl rfl ?_
    rintro v w4 (⟨hcan, rfl, g4, h4, t4⟩ | ⟨hcan, rfl, k4⟩)
    · (repeat first|refine zA ?_|refine zB ?_|refine zC ?_|refine zD ?_|refine zE ?_|refine zg ?_|refine zo rfl rfl (by first|exact trivial|(simp only[AllP];omega)|(simp(discharger:=omega)only[AllP,cA,cB];omega)|(simp only[AllP,cC,cD,cE,cF,cG];omega)) ?_|refine zn ?_|refine zb ?_|refine ze rfl ?_|refine zr ?_|refine zk ?_|refine zT rfl rfl rfl ?_|refine zU rfl rfl rfl ?_|refine zV rfl rfl rfl ?_|refine zf rfl ?_|refine zt rfl ?_)
      refine ⟨i + 1, rfl, ⟨⟨g4, by rw [runN_succ hx]; exact h4, (t1.trans (KTo.of0 k3)).trans t4⟩, by omega, fun j e hj he => ?_⟩, by omega⟩
      by_cases hji : j = i
      · subst hji; rw [hx] at he; cases he; exact hcan
      · exact hok j e (by omega) he
    · (repeat first|refine zA ?_|refine zB ?_|refine zC ?_|refine zD ?_|refine zE ?_|refine zg ?_|refine zo rfl rfl (by first|exact trivial|(simp only[AllP];omega)|(simp(discharger:=omega)only[AllP,cA,cB];omega)|(simp only[AllP,cC,cD,cE,cF,cG];omega)) ?_|refine zn ?_|refine zb ?_|refine ze rfl ?_|refine zr ?_|refine zk ?_|refine zT rfl rfl rfl ?_|refine zU rfl rfl rfl ?_|refine zV rfl rfl rfl ?_|refine zf rfl ?_|refine zt rfl ?_)
      refine ⟨_, rfl, i, g1, hi, by rw [if_neg (by omega)], h3.kp0 k4, (t1.trans (KTo.of0 k3)).trans (KTo.of0 k4), hok, fun e he => ?_⟩
      rw [hx] at he; cases he; exact hcan
  · have hin2 : i = l.length := by omega
    (repeat first|refine zA ?_|refine zB ?_|refine zC ?_|refine zD ?_|refine zE ?_|refine zg ?_|refine zo rfl rfl (by first|exact trivial|(simp only[AllP];omega)|(simp(discharger:=omega)only[AllP,cA,cB];omega)|(simp only[AllP,cC,cD,cE,cF,cG];omega)) ?_|refine zn ?_|refine zb ?_|refine ze rfl ?_|refine zr ?_|refine zk ?_|refine zT rfl rfl rfl ?_|refine zU rfl rfl rfl ?_|refine zV rfl rfl rfl ?_|refine zf rfl ?_|refine zt rfl ?_)
    exact ⟨_, rfl, i, g1, hi, by rw [if_pos hin2, hin2], h1, t1, hok, fun e he => by rw [List.getElem?_eq_none (by omega)] at he; cases he⟩
end
end Go.Vc
/- Equality of structs whose fields are all ints. -/
namespace Go.Vc
open Go
variable {P : Program} {n : Nat} {a : Act} {e : Env} {w : World} {K : EPost} {X : List (Nat × EPost)} {R : EPost} {all : List Oper} {G : List Nat} {ro : Option Nat} {Fl : World → Prop}
def okFields (P : Program) : List Field → Nat → Bool
  | [], _ => true
  | f :: r, k => (f.name != "_") && Nat.beq f.offset k && (match P.underlying f.type with | some (.int .i64) => true | _ => false) && okFields P r (k + 1)
def eqInts : List Int → List Int → Bool
  | [], [] => true
  | x :: r, y :: q => if x = y then eqInts r q else false
  | _, _ => false
theorem eqInts_iff : ∀ {l m : List Int}, eqInts l m = true ↔ l = m
  | [], [] => by simp [eqInts]
  | x :: r, y :: q => by
    simp only [eqInts]
    by_cases h : x = y
    · rw [if_pos h, eqInts_iff, h]; simp
    · rw [if_neg h]; simp [h]
  | [], _ :: _ => by simp [eqInts]
  | _ :: _, [] => by simp [eqInts]
theorem run_eqFields_ints (d : Nat) (xs ys : Array Value) : ∀ (fs : List Field) (k : Nat) (us bs : List Int), okFields P fs k = true → us.length = fs.length → bs.length = fs.length → (∀ j v, us[j]? = some v → xs[k + j]? = some (I v)) → (∀ j v, bs[j]? = some v → ys[k + j]? = some (I v)) →
    (Op.eqFields (d + 1) xs ys fs).run P w = .ok (eqInts us bs) w
  | [], k, us, bs, _, ha, hb, _, _ => by
    have e1 : us = [] := List.eq_nil_of_length_eq_zero (by simpa using ha)
    have e2 : bs = [] := List.eq_nil_of_length_eq_zero (by simpa using hb)
    subst e1 e2
    simp [Op.eqFields, eqInts]
  | f :: r, k, us, bs, h, ha, hb, hx, hy => by
    match us, bs, ha, hb with
    | x :: us, y :: bs, ha, hb =>
      simp only [okFields, Bool.and_eq_true, bne_iff_ne, ne_eq] at h
      obtain ⟨⟨⟨h1, h2⟩, h3⟩, h4⟩ := h
      have h2 := Nat.eq_of_beq_eq_true h2
      have h3' : P.underlying f.type = some (.int .i64) := by
        split at h3 <;> first | assumption | cases h3
      have ih := run_eqFields_ints d xs ys r (k + 1) us bs h4 (by simpa using ha) (by simpa using hb) (fun j v hv => by
        have := hx (j + 1) v (by simpa using hv)
        rwa [show k + (j + 1) = k + 1 + j by omega] at this) (fun j v hv => by
        have := hy (j + 1) v (by simpa using hv)
        rwa [show k + (j + 1) = k + 1 + j by omega] at this)
      have hx0 := hx 0 x rfl
      have hy0 := hy 0 y rfl
      rw [Nat.add_zero] at hx0 hy0
      have p1 : (part f.type xs f.offset).run P w = .ok (I x) w := by
        rw [h2]; simp [part, isAgg_run h3' rfl, hx0]
      have p2 : (part f.type ys f.offset).run P w = .ok (I y) w := by
        rw [h2]; simp [part, isAgg_run h3' rfl, hy0]
      simp only [Op.eqFields, Sem.run_bind, Sem.run_ite, if_pos h1, p1, p2, Result.andThen_ok, run_equalIn_int w d f.type .i64 .i64 x y h3', eqInts]
      by_cases hxy : x = y
      · simp [hxy, ih]
      · simp [hxy]
theorem run_eqS {t : TypeId} {us bs : List Int} (hu : P.underlying t = some (.struct (P.fieldsOf t))) (hp : P.stoodInHeld t = false) (hf : okFields P (P.fieldsOf t).toList 0 = true) (ha : Nat.beq us.length (P.fieldsOf t).toList.length = true) (hb : Nat.beq bs.length (P.fieldsOf t).toList.length = true) :
    (Op.equalIn 10000 t (.agg ⟨us.map I⟩) (.agg ⟨bs.map I⟩)).run P w = .ok (eqInts us bs) w := by
  rw [run_equalIn_agg w 9999 t _ _ hu hp]
  exact run_eqFields_ints 9998 _ _ _ 0 us bs hf (Nat.eq_of_beq_eq_true ha) (Nat.eq_of_beq_eq_true hb) (fun j v hv => by simp [hv]) (fun j v hv => by simp [hv])
section
variable {dst : Option Tmp} {ty ty2 : TypeId} {pos : String} {after : Array Edge} {g : Option (Nat × Bool)} {l : List Oper} {t : TypeId} {x y : Operand}
theorem exec_eqS {us bs : List Int} (hx : ev e x = .agg ⟨us.map I⟩) (hy : ev e y = .agg ⟨bs.map I⟩) (hu : P.underlying t = some (.struct (P.fieldsOf t))) (hp : P.stoodInHeld t = false) (hg : P.eqGuardType P.depth t = false) (hf : okFields P (P.fieldsOf t).toList 0 = true) (ha : Nat.beq us.length (P.fieldsOf t).toList.length = true) (hb : Nat.beq bs.length (P.fieldsOf t).toList.length = true) :
    (execOp (ev e) ⟨dst, .binOp .eql t x y ty2, ty, pos, after, g⟩).run P w = .ok (.value (.bool (eqInts us bs))) w := by
  simp only [execOp, Sem.run_bind, hx, hy, run_eqGuard_agg w .eql t x y _ _ hg, Result.andThen_ok, run_eql_struct, run_eqS hu hp hf ha hb, Sem.run_pure]
theorem exec_neqS {us bs : List Int} (hx : ev e x = .agg ⟨us.map I⟩) (hy : ev e y = .agg ⟨bs.map I⟩) (hu : P.underlying t = some (.struct (P.fieldsOf t))) (hp : P.stoodInHeld t = false) (hg : P.eqGuardType P.depth t = false) (hf : okFields P (P.fieldsOf t).toList 0 = true) (ha : Nat.beq us.length (P.fieldsOf t).toList.length = true) (hb : Nat.beq bs.length (P.fieldsOf t).toList.length = true) :
    (execOp (ev e) ⟨dst, .binOp .neq t x y ty2, ty, pos, after, g⟩).run P w = .ok (.value (.bool (!eqInts us bs))) w := by
  simp only [execOp, Sem.run_bind, hx, hy, run_eqGuard_agg w .neq t x y _ _ hg, Result.andThen_ok, run_neq_struct, run_eqS hu hp hf ha hb, Sem.run_pure]
theorem o_eqS (us bs : List Int) (hx : ev e x = .agg ⟨us.map I⟩) (hy : ev e y = .agg ⟨bs.map I⟩) (hu : P.underlying t = some (.struct (P.fieldsOf t))) (hp : P.stoodInHeld t = false) (hg : P.eqGuardType P.depth t = false) (hf : okFields P (P.fieldsOf t).toList 0 = true) (ha : Nat.beq us.length (P.fieldsOf t).toList.length = true) (hb : Nat.beq bs.length (P.fieldsOf t).toList.length = true) (hd : dOk n dst = true) (hm : may all G e g = some true)
    (k : Ops ro P n all G K l (put e dst (.bool (eqInts us bs))) w) : Ops ro P n all G K (⟨dst, .binOp .eql t x y ty2, ty, pos, after, g⟩ :: l) e w :=
  ops_does hd hm (exec_eqS hx hy hu hp hg hf ha hb) k
theorem q_eqS {C : World → Prop} {K : Env → Prop} (us bs : List Int) (hx : ev e x = .agg ⟨us.map I⟩) (hy : ev e y = .agg ⟨bs.map I⟩) (hu : P.underlying t = some (.struct (P.fieldsOf t))) (hp : P.stoodInHeld t = false) (hg : P.eqGuardType P.depth t = false) (hf : okFields P (P.fieldsOf t).toList 0 = true) (ha : Nat.beq us.length (P.fieldsOf t).toList.length = true) (hb : Nat.beq bs.length (P.fieldsOf t).toList.length = true) (hd : dOk n dst = true) (hm : may all G e g = some true)
    (k : QOps P n all G C K l (put e dst (.bool (eqInts us bs)))) : QOps P n all G C K (⟨dst, .binOp .eql t x y ty2, ty, pos, after, g⟩ :: l) e :=
  qops_does hd hm (fun w hw => exec_eqS hx hy hu hp hg hf ha hb) k
theorem x_eqS {r : List (Nat × Bool)} {j : Nat} (us bs : List Int) (ho : nthO all j = some ⟨dst, .binOp .eql t x y ty2, ty, pos, after, g⟩) (hx : ev e x = .agg ⟨us.map I⟩) (hy : ev e y = .agg ⟨bs.map I⟩) (hu : P.underlying t = some (.struct (P.fieldsOf t))) (hp : P.stoodInHeld t = false) (hg : P.eqGuardType P.depth t = false) (hf : okFields P (P.fieldsOf t).toList 0 = true) (ha : Nat.beq us.length (P.fieldsOf t).toList.length = true) (hb : Nat.beq bs.length (P.fieldsOf t).toList.length = true) (hd : dOk n dst = true) (hm : may all G e g = some true)
    (k : MOps ro P n all G Fl K r (put e dst (.bool (eqInts us bs))) w) : MOps ro P n all G Fl K ((j, false) :: r) e w :=
  x_does ho hd hm (fun w hw => exec_eqS hx hy hu hp hg hf ha hb) k
theorem o_neqS (us bs : List Int) (hx : ev e x = .agg ⟨us.map I⟩) (hy : ev e y = .agg ⟨bs.map I⟩) (hu : P.underlying t = some (.struct (P.fieldsOf t))) (hp : P.stoodInHeld t = false) (hg : P.eqGuardType P.depth t = false) (hf : okFields P (P.fieldsOf t).toList 0 = true) (ha : Nat.beq us.length (P.fieldsOf t).toList.length = true) (hb : Nat.beq bs.length (P.fieldsOf t).toList.length = true) (hd : dOk n dst = true) (hm : may all G e g = some true)
    (k : Ops ro P n all G K l (put e dst (.bool (!eqInts us bs))) w) : Ops ro P n all G K (⟨dst, .binOp .neq t x y ty2, ty, pos, after, g⟩ :: l) e w :=
  ops_does hd hm (exec_neqS hx hy hu hp hg hf ha hb) k
theorem q_neqS {C : World → Prop} {K : Env → Prop} (us bs : List Int) (hx : ev e x = .agg ⟨us.map I⟩) (hy : ev e y = .agg ⟨bs.map I⟩) (hu : P.underlying t = some (.struct (P.fieldsOf t))) (hp : P.stoodInHeld t = false) (hg : P.eqGuardType P.depth t = false) (hf : okFields P (P.fieldsOf t).toList 0 = true) (ha : Nat.beq us.length (P.fieldsOf t).toList.length = true) (hb : Nat.beq bs.length (P.fieldsOf t).toList.length = true) (hd : dOk n dst = true) (hm : may all G e g = some true)
    (k : QOps P n all G C K l (put e dst (.bool (!eqInts us bs)))) : QOps P n all G C K (⟨dst, .binOp .neq t x y ty2, ty, pos, after, g⟩ :: l) e :=
  qops_does hd hm (fun w hw => exec_neqS hx hy hu hp hg hf ha hb) k
theorem x_neqS {r : List (Nat × Bool)} {j : Nat} (us bs : List Int) (ho : nthO all j = some ⟨dst, .binOp .neq t x y ty2, ty, pos, after, g⟩) (hx : ev e x = .agg ⟨us.map I⟩) (hy : ev e y = .agg ⟨bs.map I⟩) (hu : P.underlying t = some (.struct (P.fieldsOf t))) (hp : P.stoodInHeld t = false) (hg : P.eqGuardType P.depth t = false) (hf : okFields P (P.fieldsOf t).toList 0 = true) (ha : Nat.beq us.length (P.fieldsOf t).toList.length = true) (hb : Nat.beq bs.length (P.fieldsOf t).toList.length = true) (hd : dOk n dst = true) (hm : may all G e g = some true)
    (k : MOps ro P n all G Fl K r (put e dst (.bool (!eqInts us bs))) w) : MOps ro P n all G Fl K ((j, false) :: r) e w :=
  x_does ho hd hm (fun w hw => exec_neqS hx hy hu hp hg hf ha hb) k
end
end Go.Vc
