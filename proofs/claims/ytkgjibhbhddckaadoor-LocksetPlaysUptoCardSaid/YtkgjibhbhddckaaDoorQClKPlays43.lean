/- LocksetPlays: two keepers side by side, there or not; what both tell. -/
import Derived.Test.YtkgjibhbhddckaaDoorQClKPlays40
import Derived.Test.YtkgjibhbhddckaaDoorQClKPlays42
import Derived.Test.YtkgjibhbhddckaaDoorQClKPlays33
namespace Go.Vc
open Go Go.Proofs
set_option maxRecDepth 10000
variable {w : World}
section
theorem rHeld_nil (n : Int) : Ret Tryd.prog 42 [.pointer none, I n] w (fun v w' => v = .slice none 0 0 ∧ w' = w) := by
  refine enter Tryd.call42 Tryd.func42 rfl rfl rfl rfl ?_
  (repeat first|refine zA ?_|refine zB ?_|refine zg ?_|refine zo rfl rfl trivial ?_|refine zn ?_|refine zr ?_|refine zT rfl rfl rfl ?_|refine zt rfl ?_)
  exact ⟨_, rfl, rfl, rfl⟩
theorem rOf_nil (n : Int) : Ret Tryd.prog 48 [.pointer none, I n] w (fun v w' => v = .slice none 0 0 ∧ w' = w) := by
  refine enter Tryd.call48 Tryd.func48 rfl rfl rfl rfl ?_
  (repeat first|refine zA ?_|refine zB ?_|refine zg ?_|refine zo rfl rfl trivial ?_|refine zn ?_|refine zr ?_|refine zt rfl ?_)
  exact ⟨_, rfl, rfl, rfl⟩
theorem rKeeps_nil (n : Int) : Ret Tryd.prog 44 [.pointer none, I n] w (fun v w' => v = .tuple #[.slice none 0 0, .bool false] ∧ w' = w) := by
  refine enter Tryd.call44 Tryd.func44 rfl rfl rfl rfl ?_
  (repeat first|refine zA ?_|refine zg ?_|refine zo rfl rfl trivial ?_|refine zn ?_)
  refine o_call (rOf_nil n) rfl rfl rfl ?_
  rintro v wx ⟨rfl, rfl⟩
  (repeat first|refine zA ?_|refine zB ?_|refine zg ?_|refine zo rfl rfl trivial ?_|refine zn ?_|refine zr ?_|refine zt rfl ?_)
  exact ⟨_, rfl, rfl, rfl⟩
theorem rView_nil (n : Int) : Ret Tryd.prog 45 [.pointer none, I n] w (fun v w' => v = .tuple #[.agg ⟨[I 0, I 0, .slice none 0 0]⟩, .bool false] ∧ Kp [] w w') := by
  refine enterC Tryd.call45 Tryd.func45 rfl rfl rfl rfl ?_
  (repeat first|refine zA ?_|refine zg ?_)
  refine o_alloc rfl rfl rfl rfl ?_
  intro bv w1 hbv hu1
  have k1 : Kp [] w w1 := hu1.kp [] (.inr (by omega))
  (repeat first|refine zA ?_|refine zB ?_|refine zg ?_|refine zo rfl rfl trivial ?_|refine zn ?_|refine zT rfl rfl rfl ?_|refine zt rfl ?_)
  refine o_build [I 0, I 0, .slice none 0 0] rfl rfl rfl rfl rfl rfl rfl ?_
  refine o_storeA (cs := [I 0, I 0, .slice none 0 0]) rfl hu1.blk (Nat.le_refl _) rfl (by simp [Value.oneCell']) rfl rfl rfl rfl ?_
  intro w2 hu2
  have k2 : Kp [] w w2 := k1.since (hu2.kp [bv] (.inl (by simp))) (by simp; omega)
  have hB2 : Blk w2 bv [I 0, I 0, .slice none 0 0] 41 := hu2.blk
  (repeat first|refine zo rfl rfl trivial ?_|refine zn ?_|refine zr ?_)
  exact ⟨[.agg ⟨[I 0, I 0, .slice none 0 0]⟩, _], ⟨⟨_, rfl, run_loadB hB2 rfl rfl rfl rfl⟩, ⟨_, rfl⟩, trivial⟩, rfl, k2⟩
theorem rWarned_nil : Ret Tryd.prog 22 [.pointer none] w (fun v w' => v = .slice none 0 0 ∧ w' = w) := by
  refine enter Tryd.call22 Tryd.func22 rfl rfl rfl rfl ?_
  (repeat first|refine zA ?_|refine zB ?_|refine zg ?_|refine zo rfl rfl trivial ?_|refine zn ?_|refine zr ?_|refine zt rfl ?_)
  exact ⟨_, rfl, rfl, rfl⟩
theorem rCopy_nil : Ret Tryd.prog 24 [.pointer none] w (fun v w' => v = .pointer none ∧ w' = w) := by
  refine enter Tryd.call24 Tryd.func24 rfl rfl rfl rfl ?_
  (repeat first|refine zA ?_|refine zB ?_|refine zg ?_|refine zo rfl rfl trivial ?_|refine zn ?_|refine zr ?_|refine zt rfl ?_)
  exact ⟨_, rfl, rfl, rfl⟩
theorem rEvent_nil (x : Ev) : Ret Tryd.prog 16 [.pointer none, .agg ⟨evC x⟩] w (fun v w' => v = I 1 ∧ Kp [] w w') := by
  refine enter Tryd.call16 Tryd.func16 rfl rfl rfl rfl ?_
  (repeat first|refine zA ?_|refine zg ?_)
  refine o_box rfl rfl rfl ?_
  intro bx w1 hbx hu1
  have k1 : Kp [] w w1 := hu1.kp [] (.inr (by omega))
  (repeat first|refine zA ?_|refine zB ?_|refine zg ?_|refine zo rfl rfl trivial ?_|refine zn ?_|refine zr ?_|refine zt rfl ?_)
  exact ⟨_, rfl, rfl, k1⟩
theorem rEvents_nil {ad : Option Addr} {n cap : Nat} : Ret Tryd.prog 18 [.pointer none, .slice ad n cap] w (fun v w' => v = .tuple #[I 0, I 1] ∧ w' = w) := by
  refine enter Tryd.call18 Tryd.func18 rfl rfl rfl rfl ?_
  (repeat first|refine zA ?_|refine zB ?_|refine zg ?_|refine zo rfl rfl trivial ?_|refine zn ?_|refine zr ?_|refine zt rfl ?_)
  exact ⟨_, rfl, rfl, rfl⟩
end
/-- a keeper and the reference's, as ghosts -/
structure PG where
  k : KG
  r : K23
  S : LS
  A : List AccR
abbrev kV (o : Option PG) : Value := .pointer (o.map fun x => ⟨x.k.kp, 0, none⟩)
abbrev rV (o : Option PG) : Value := .pointer (o.map fun x => ⟨x.r.p, 0, none⟩)
structure PIn (w : World) (s : Shp) (x : PG) : Prop where
  ks : KS w x.k s x.S
  vok : x.S.VOk
  rs : R23 w x.r s x.S.c x.A
  inn : RIn s x.S x.A
  nn : x.S.c.n ≤ 2199023255552
def POk (w : World) (s : Shp) (o : Option PG) : Prop := ∀ x, o = some x → PIn w s x
theorem PIn.kp0 {w' : World} {s : Shp} {x : PG} (h : PIn w s x) (k : Kp [] w w') : PIn w' s x := ⟨h.ks.kp0 k, h.vok, h.rs.kp0 k, h.inn, h.nn⟩
theorem POk.kp0 {w' : World} {s : Shp} {o : Option PG} (h : POk w s o) (k : Kp [] w w') : POk w' s o := fun x hx => (h x hx).kp0 k
theorem oL_map (o : Option SG) : oL o = (o.map SG.l).getD [] := by cases o <;> rfl
theorem PIn.varAt {s : Shp} {x : PG} (h : PIn w s x) (n : Int) : (varAt x.k n = none ∧ ¬ (0 ≤ n ∧ n < s.va) ∧ ofR x.A n = []) ∨ ∃ y, varAt x.k n = some y ∧ (0 ≤ n ∧ n < s.va) ∧ phasesR (ofR x.A n) = relV (varM y) ∧ keepsR (ofR x.A n) = (varM y).kp := by
  have hl := h.inn.len
  have hva : (x.k.vars.length : Int) = s.va := h.ks.at_.nv
  by_cases q : 0 ≤ n ∧ n < s.va
  · right
    have hlt : n.toNat < x.k.vars.length := by omega
    have hy : x.k.vars[n.toNat]? = some x.k.vars[n.toNat] := List.getElem?_eq_getElem hlt
    have hv : x.S.V[n.toNat]? = some (varM x.k.vars[n.toNat]) := by rw [← h.ks.V, List.getElem?_map, hy]; rfl
    have e : ((n.toNat : Nat) : Int) = n := by omega
    have h1 := (h.inn.view hv).1
    have h2 := h.inn.keeps hv
    rw [e] at h1 h2
    exact ⟨_, by unfold Go.Vc.varAt; rw [if_pos q.1, hy], q, h1, h2⟩
  · left
    refine ⟨?_, q, h.inn.none (by omega)⟩
    unfold Go.Vc.varAt
    by_cases q0 : 0 ≤ n
    · rw [if_pos q0]; exact List.getElem?_eq_none (by omega)
    · rw [if_neg q0]
theorem PIn.keeps {s : Shp} {x : PG} (h : PIn w s x) (n : Int) : ((Go.Vc.varAt x.k n).bind (·.kp)).map SG.l = keepsR (ofR x.A n) := by
  rcases h.varAt n with ⟨h1, _, h3⟩ | ⟨y, h1, _, _, h4⟩
  · rw [h1, h3]; rfl
  · rw [h1, h4]; rfl
def tHeld (o : Option PG) (n : Int) : List Nat := (o.map fun x => x.S.H n).getD []
def tKeeps (o : Option PG) (n : Int) : Option (List Nat) := o.bind fun x => keepsR (ofR x.A n)
def tView (s : Shp) (o : Option PG) (n : Int) : VR := (o.map fun x => viewR s x.A n).getD ⟨0, 0, [], -1⟩
def tIs (s : Shp) (o : Option PG) (n : Int) : Bool := o.isSome && decide (0 ≤ n ∧ n < s.va)
def tWarn (s : Shp) (o : Option PG) : List (Nat × Int) := (o.map fun x => warnR x.A s.va.toNat).getD []
section
variable {s : Shp} {o : Option PG}
theorem sKHeld (h : POk w s o) (n : Int) : Ret Tryd.prog 28 [kV o, I n] w (fun v w' => ∃ ad cap, v = .slice ad (tHeld o n).length cap ∧ NewS w 3 w' ad (tHeld o n).length cap ((tHeld o n).map encI)) := by
  cases o with
  | none => exact (Held_abs (.inl rfl) n).mono fun v w' ⟨h1, h2⟩ => ⟨none, 0, h1, by rw [h2]; exact nS_nil⟩
  | some x =>
    have e : tHeld (some x) n = oL (x.k.H n) := ((h x rfl).ks.H n).symm
    rw [e]
    exact kHeld_ret (h x rfl).ks.at_ n
theorem sRHeld (h : POk w s o) (n : Int) : Ret Tryd.prog 42 [rV o, I n] w (fun v w' => ∃ ad cap, v = .slice ad (tHeld o n).length cap ∧ NewS w 3 w' ad (tHeld o n).length cap ((tHeld o n).map encI)) := by
  cases o with
  | none => exact (rHeld_nil n).mono fun v w' ⟨h1, h2⟩ => ⟨none, 0, h1, by rw [h2]; exact nS_nil⟩
  | some x =>
    have e : tHeld (some x) n = heldR s x.S.c n := ((h x rfl).inn.held n).symm
    rw [e]
    exact rHeld_ret (h x rfl).rs n
theorem sKKeeps (h : POk w s o) (n : Int) : Ret Tryd.prog 10 [kV o, I n] w (fun v w' => ∃ ad cap, v = .tuple #[.slice ad ((tKeeps o n).getD []).length cap, .bool (tKeeps o n).isSome] ∧ NewS w 3 w' ad ((tKeeps o n).getD []).length cap (((tKeeps o n).getD []).map encI)) := by
  cases o with
  | none => exact (Keeps_abs (.inl rfl) n).mono fun v w' ⟨h1, h2⟩ => ⟨none, 0, h1, by rw [h2]; exact nS_nil⟩
  | some x =>
    have e : tKeeps (some x) n = ((varAt x.k n).bind (·.kp)).map SG.l := ((h x rfl).keeps n).symm
    rw [e, ← oL_map, Option.isSome_map]
    exact kKeeps_ret (h x rfl).ks.at_ n
theorem sRKeeps (h : POk w s o) (n : Int) : Ret Tryd.prog 44 [rV o, I n] w (fun v w' => ∃ ad cap, v = .tuple #[.slice ad ((tKeeps o n).getD []).length cap, .bool (tKeeps o n).isSome] ∧ ReadS w' ad (((tKeeps o n).getD []).map encI) ∧ Kp [] w w') := by
  cases o with
  | none => exact (rKeeps_nil n).mono fun v w' ⟨h1, h2⟩ => ⟨none, 0, h1, rfl, by rw [h2]; exact Kp.refl _ _⟩
  | some x => exact rKeeps_ret (h x rfl).rs (h x rfl).nn (h x rfl).inn.nod n
theorem sKView (h : POk w s o) (n : Int) : Ret Tryd.prog 11 [kV o, I n] w (fun v w' => ∃ ad cap, v = .tuple #[.agg ⟨[I (tView s o n).ph, I (tView s o n).th, .slice ad (tView s o n).L.length cap]⟩, .bool (tIs s o n)] ∧ NewS w 3 w' ad (tView s o n).L.length cap ((tView s o n).L.map encI)) := by
  cases o with
  | none => exact (View_abs (.inl rfl) n).mono fun v w' ⟨h1, h2⟩ => ⟨none, 0, h1, nS_nil.own.kp h2 (by simp [blkOf]), h2, by simp [blkOf]⟩
  | some x =>
    have e : (tView s (some x) n).ph = ((varAt x.k n).map (·.ph)).getD 0 ∧ (tView s (some x) n).th = ((varAt x.k n).map (·.th)).getD 0 ∧ (tView s (some x) n).L = oL ((varAt x.k n).bind (·.ca)) ∧ tIs s (some x) n = (varAt x.k n).isSome := by
      show (viewR s x.A n).ph = _ ∧ (viewR s x.A n).th = _ ∧ (viewR s x.A n).L = _ ∧ (true && decide (0 ≤ n ∧ n < s.va)) = _
      unfold viewR
      rcases (h x rfl).varAt n with ⟨h1, h2, h3⟩ | ⟨y, h1, h2, h3, _⟩
      · rw [h1, if_neg h2, decide_eq_false h2]
        exact ⟨rfl, rfl, rfl, rfl⟩
      · rw [h1, if_pos h2, decide_eq_true h2, h3]
        exact ⟨rfl, rfl, (oL_map _).symm, rfl⟩
    obtain ⟨e1, e2, e3, e4⟩ := e
    rw [e1, e2, e3, e4]
    exact kView_ret (h x rfl).ks.at_ n
theorem sRView (h : POk w s o) (n : Int) : Ret Tryd.prog 45 [rV o, I n] w (fun v w' => ∃ ad cap, v = .tuple #[.agg ⟨[I (tView s o n).ph, I (tView s o n).th, .slice ad (tView s o n).L.length cap]⟩, .bool (tIs s o n)] ∧ ReadS w' ad ((tView s o n).L.map encI) ∧ Kp [] w w') := by
  cases o with
  | none => exact (rView_nil n).mono fun v w' ⟨h1, h2⟩ => ⟨none, 0, h1, rfl, h2⟩
  | some x => exact rView_ret (h x rfl).rs (h x rfl).nn (h x rfl).inn.nod n
theorem sRWarned (h : POk w s o) : Ret Tryd.prog 22 [rV o] w (fun v w' => ∃ ad cap, v = .slice ad (tWarn s o).length cap ∧ ReadS w' ad (flagsC (tWarn s o)) ∧ Kp [] w w') := by
  cases o with
  | none => exact rWarned_nil.mono fun v w' ⟨h1, h2⟩ => ⟨none, 0, h1, rfl, by rw [h2]; exact Kp.refl _ _⟩
  | some x => exact rWarned_ret (h x rfl).rs (h x rfl).nn (h x rfl).inn.nod
theorem fm_congr {α β : Type} {f g : α → Option β} : ∀ l : List α, (∀ x ∈ l, f x = g x) → l.filterMap f = l.filterMap g
  | [], _ => rfl
  | x :: r, h => by
    have h1 := h x (by simp)
    have h2 := fm_congr r fun y hy => h y (by simp [hy])
    simp only [List.filterMap_cons, h1, h2]
theorem PIn.warn {x : PG} (h : PIn w s x) : warnedL (x.k.vars.map varM) = warnR x.A s.va.toNat := by
  have hva : (x.k.vars.length : Int) = s.va := h.ks.at_.nv
  have hl := h.inn.len
  rw [h.ks.V]
  unfold warnedL warnR
  rw [show x.S.V.length = s.va.toNat from hl]
  refine fm_congr _ fun i hi => ?_
  have hi := List.mem_range.1 hi
  have hv : x.S.V[i]? = some x.S.V[i] := List.getElem?_eq_getElem (by omega)
  rw [hv]
  obtain ⟨h1, h2⟩ := h.inn.view hv
  rw [h1]
  dsimp only
  unfold relV
  dsimp only
  cases hw : (x.S.V[i]).wa with
  | false => simp
  | true => have := h2.wa hw; simp [this]
theorem sKWarned (h : POk w s o) : Ret Tryd.prog 13 [kV o] w (fun v w' => ∃ ad cap, v = .slice ad (tWarn s o).length cap ∧ OwnS w' 82 2 ad (tWarn s o).length cap (flagsC (tWarn s o)) ∧ Kp [] w w' ∧ ∀ b, b ∈ blkOf ad → w.heap.size ≤ b) := by
  cases o with
  | none => exact (Warned_abs (.inl rfl)).mono fun v w' ⟨h1, h2⟩ => ⟨none, 0, h1, ownS_nil _ _ _, by rw [h2]; exact Kp.refl _ _, by simp [blkOf]⟩
  | some x =>
    have e : tWarn s (some x) = warnedL (x.k.vars.map varM) := (h x rfl).warn.symm
    rw [e]
    exact kWarned_ret (h x rfl).ks.at_
end
end Go.Vc
/- lockset: LocksetKeeps' walk. -/
namespace Go.Vc
open Go Go.Proofs
set_option maxRecDepth 10000
variable {w : World}
theorem encI_map (l : List Nat) : (l.map encI) = (l.map fun n : Nat => (n : Int)).map I := by rw [List.map_map]; rfl
end Go.Vc
/- LocksetPlays: told. -/
namespace Go.Vc
open Go Go.Proofs
set_option maxRecDepth 10000
variable {w : World}
theorem same_encI {ad1 ad2 : Option Addr} {L : List Nat} {c1 c2 : Nat} (h1 : ReadS w ad1 (L.map encI)) (h2 : ReadS w ad2 (L.map encI)) (hl : L.length ≤ 9223372036854775807) :
    Ret Tryd.prog 12 [.slice ad1 L.length c1, .slice ad2 L.length c2] w (fun v w' => v = .bool true ∧ Sm w w') := by
  have e : L.map encI = (L.map fun k : Nat => (k : Int)).map I := by rw [List.map_map]; rfl
  rw [e] at h1 h2
  exact same23_yes h1 h2 (by simp) (by simp) hl
theorem sameView_yes {ad1 ad2 : Option Addr} {L : List Nat} {c1 c2 : Nat} (a b : Int) (h1 : ReadS w ad1 (L.map encI)) (h2 : ReadS w ad2 (L.map encI)) (hl : L.length ≤ 9223372036854775807) :
    Ret Tryd.prog 46 [.agg ⟨[I a, I b, .slice ad1 L.length c1]⟩, .agg ⟨[I a, I b, .slice ad2 L.length c2]⟩] w (fun v w' => v = .bool true ∧ Kp [] w w') := by
  refine enter Tryd.call46 Tryd.func46 rfl rfl rfl rfl ?_
  (repeat first|refine zA ?_|refine zg ?_)
  refine o_box rfl rfl rfl ?_
  intro b1 w1 hb1 hu1
  have hB1 : Blk w1 b1 [I a, I b, .slice ad1 L.length c1] 41 := hu1.blk
  have k1 : Kp [] w w1 := hu1.kp [] (.inr (by omega))
  refine o_box rfl rfl rfl ?_
  intro b2 w2 hb2 hu2
  have k2 : Kp [] w1 w2 := hu2.kp [] (.inr (by omega))
  have hB2 : Blk w2 b2 [I a, I b, .slice ad2 L.length c2] 41 := hu2.blk
  have hB1 := k2.blk (by simp) hB1
  have k12 := k1.trans k2
  (repeat first|refine zA ?_|refine zg ?_|refine zo rfl rfl trivial ?_|refine zn ?_)
  refine o_load (v := I a) rfl hB1 rfl rfl rfl rfl rfl ?_
  (repeat refine zo rfl rfl trivial ?_)
  refine o_load (v := I a) rfl hB2 rfl rfl rfl rfl rfl ?_
  (repeat refine zo rfl rfl trivial ?_)
  refine o_is true 5 true rfl rfl rfl (by simp) ?_
  (repeat refine zo rfl rfl trivial ?_)
  refine o_load (v := I b) rfl hB1 rfl rfl rfl rfl rfl ?_
  (repeat refine zo rfl rfl trivial ?_)
  refine o_load (v := I b) rfl hB2 rfl rfl rfl rfl rfl ?_
  (repeat refine zo rfl rfl trivial ?_)
  refine o_is true 12 true rfl rfl rfl (by simp) ?_
  (repeat refine zo rfl rfl trivial ?_)
  refine o_load (v := .slice ad1 L.length c1) rfl hB1 rfl rfl rfl rfl rfl ?_
  (repeat refine zo rfl rfl trivial ?_)
  refine o_load (v := .slice ad2 L.length c2) rfl hB2 rfl rfl rfl rfl rfl ?_
  refine o_call (same_encI (h1.kp k12 (by simp)) (h2.kp k12 (by simp)) hl) rfl rfl rfl ?_
  rintro v w3 ⟨rfl, hs⟩
  (repeat first|refine zo rfl rfl trivial ?_|refine zn ?_|refine zr ?_)
  exact ⟨_, rfl, rfl, k12.trans (hs.kp [])⟩
section
variable {s : Shp} {o : Option PG}
set_option maxHeartbeats 3200000 in
theorem told_ret (h : POk w s o) (n : Int) (hb : (tHeld o n).length ≤ 9223372036854775807 ∧ ((tKeeps o n).getD []).length ≤ 9223372036854775807 ∧ (tView s o n).L.length ≤ 9223372036854775807) : Ret Tryd.prog 19 [kV o, rV o, I n] w (fun v w' => v = .bool true ∧ Kp [] w w') := by
  refine enter Tryd.call19 Tryd.func19 rfl rfl rfl rfl ?_
  (repeat first|refine zA ?_|refine zg ?_|refine zo rfl rfl trivial ?_|refine zn ?_)
  refine o_call (sKKeeps h n) rfl rfl rfl ?_
  rintro v w1 ⟨a1, c1, rfl, n1⟩
  have h1 := h.kp0 n1.kp
  (repeat first|refine zA ?_|refine zg ?_|refine zo rfl rfl trivial ?_|refine zn ?_)
  refine o_call (sRKeeps h1 n) rfl rfl rfl ?_
  rintro v w2 ⟨a2, c2, rfl, r2, k2⟩
  have h2 := h1.kp0 k2
  (repeat first|refine zA ?_|refine zg ?_|refine zo rfl rfl trivial ?_|refine zn ?_)
  refine o_call (sKView h2 n) rfl rfl rfl ?_
  rintro v w3 ⟨a3, c3, rfl, n3⟩
  have h3 := h2.kp0 n3.kp
  (repeat refine zo rfl rfl trivial ?_)
  refine o_alloc rfl rfl rfl rfl ?_
  intro b11 w4 hb4 hu4
  refine o_storeA (cs := [I (tView s o n).ph, I (tView s o n).th, .slice a3 (tView s o n).L.length c3]) rfl hu4.blk (Nat.le_refl _) rfl (by simp [Value.oneCell']) rfl rfl rfl rfl ?_
  intro w5 hu5
  have k5 : Kp [] w3 w5 := (hu4.kp [] (.inr (by omega))).since (hu5.kp [b11] (.inl (by simp))) (by simp; omega)
  have hB5 : Blk w5 b11 [I (tView s o n).ph, I (tView s o n).th, .slice a3 (tView s o n).L.length c3] 41 := hu5.blk
  have h5 := h3.kp0 k5
  (repeat first|refine zA ?_|refine zg ?_|refine zo rfl rfl trivial ?_|refine zn ?_)
  refine o_call (sRView h5 n) rfl rfl rfl ?_
  rintro v w6 ⟨a6, c6, rfl, r6, k6⟩
  have h6 := h5.kp0 k6
  (repeat refine zo rfl rfl trivial ?_)
  refine o_alloc rfl rfl rfl rfl ?_
  intro b13 w7 hb7 hu7
  refine o_storeA (cs := [I (tView s o n).ph, I (tView s o n).th, .slice a6 (tView s o n).L.length c6]) rfl hu7.blk (Nat.le_refl _) rfl (by simp [Value.oneCell']) rfl rfl rfl rfl ?_
  intro w8 hu8
  have k8 : Kp [] w6 w8 := (hu7.kp [] (.inr (by omega))).since (hu8.kp [b13] (.inl (by simp))) (by simp; omega)
  have hB8 : Blk w8 b13 [I (tView s o n).ph, I (tView s o n).th, .slice a6 (tView s o n).L.length c6] 41 := hu8.blk
  have h8 := h6.kp0 k8
  (repeat first|refine zA ?_|refine zg ?_|refine zo rfl rfl trivial ?_|refine zn ?_)
  refine o_call (sKHeld h8 n) rfl rfl rfl ?_
  rintro v w9 ⟨a9, c9, rfl, n9⟩
  have h9 := h8.kp0 n9.kp
  (repeat refine zo rfl rfl trivial ?_)
  refine o_call (sRHeld h9 n) rfl rfl rfl ?_
  rintro v w10 ⟨a10, c10, rfl, n10⟩
  refine o_call (same_encI (n9.read.kp n10.kp (by simp)) n10.read hb.1) rfl rfl rfl ?_
  rintro v w11 ⟨rfl, s11⟩
  have k811 := (n9.kp.trans n10.kp).trans (s11.kp [])
  have k311 := (k5.trans k6).trans (k8.trans k811)
  have k211 := n3.kp.trans k311
  (repeat first|refine zo rfl rfl trivial ?_|refine zT rfl rfl rfl ?_)
  refine o_call (same_encI ((n1.read.kp k2 (by simp)).kp k211 (by simp)) (r2.kp k211 (by simp)) hb.2.1) rfl rfl rfl ?_
  rintro v w12 ⟨rfl, s12⟩
  have k12 := k811.trans (s12.kp [])
  (repeat first|refine zo rfl rfl trivial ?_|refine zT rfl rfl rfl ?_)
  refine o_is true 17 true rfl rfl rfl (by simp) ?_
  refine o_loadA (vs := [I (tView s o n).ph, I (tView s o n).th, .slice a3 (tView s o n).L.length c3]) rfl (fun j v hv => by rw [Nat.zero_add]; exact (((k6.trans k8).trans k12).blk (by simp) hB5).cell hv) rfl rfl rfl rfl rfl rfl ?_
  refine o_loadA (vs := [I (tView s o n).ph, I (tView s o n).th, .slice a6 (tView s o n).L.length c6]) rfl (fun j v hv => by rw [Nat.zero_add]; exact (k12.blk (by simp) hB8).cell hv) rfl rfl rfl rfl rfl rfl ?_
  refine o_call (sameView_yes _ _ (n3.read.kp (k311.trans (s12.kp [])) (by simp)) (r6.kp (k8.trans k12) (by simp)) hb.2.2) rfl rfl rfl ?_
  rintro v w13 ⟨rfl, k13⟩
  (repeat first|refine zo rfl rfl trivial ?_|refine zn ?_|refine zr ?_|refine zT rfl rfl rfl ?_)
  exact ⟨_, rfl, by simp, ((n1.kp.trans k2).trans (k211.trans (s12.kp []))).trans k13⟩
end
end Go.Vc
/- LocksetPlays: six rows that are the caller's own. -/
namespace Go.Vc
open Go Go.Proofs
set_option maxRecDepth 10000
variable {w : World}
structure LG where
  ad : Option Addr
  n : Nat
  cap : Nat
abbrev lgV (x : LG) : Value := .slice x.ad x.n x.cap
abbrev fI (v : Int) : List Value := [I v]
/-- a row: as it was told, and as it is now -/
structure RQ where
  x : LG
  y : LG
  rs : List Int
  ms : List Int
def RQ.T (z : RQ) : List Nat := blkOf z.x.ad ++ blkOf z.y.ad
structure Inv6 (w0 W : World) (ba : Nat) (Q : List RQ) : Prop where
  row : ∀ (q : Nat) z, Q[q]? = some z → Gw W 3 1 fI z.x.ad z.rs z.y.ad z.y.cap z.ms ∧ z.rs.length = z.x.n ∧ z.ms.length = z.y.n
  nw : ∀ (q : Nat) z, Q[q]? = some z → ∀ b, b ∈ z.T → w0.heap.size ≤ b ∧ b ≠ ba ∧ b < W.heap.size
  dis : ∀ (p q : Nat) z u, p ≠ q → Q[p]? = some z → Q[q]? = some u → ∀ b, b ∈ z.T → b ∉ u.T
theorem setR_old {l : List RQ} {i k : Nat} {y x : RQ} (h : (l.set i y)[k]? = some x) : (k = i ∧ x = y) ∨ (k ≠ i ∧ l[k]? = some x) := by
  rw [List.getElem?_set] at h
  by_cases q : i = k
  · subst q
    rw [if_pos rfl] at h
    split at h
    · exact .inl ⟨rfl, by simpa using h.symm⟩
    · cases h
  · rw [if_neg q] at h
    exact .inr ⟨fun e => q e.symm, h⟩
section
variable {w0 W W' : World} {ba : Nat} {Q : List RQ}
theorem Inv6.kp (h : Inv6 w0 W ba Q) {S : List Nat} (hk : Kp S W W') (hS : ∀ (q : Nat) z, Q[q]? = some z → ∀ b, b ∈ z.T → b ∉ S) : Inv6 w0 W' ba Q where
  row q z hz := by
    obtain ⟨h1, h2, h3⟩ := h.row q z hz
    exact ⟨h1.kp hk (fun b hb => hS q z hz b (by simp [RQ.T, hb])) (fun b hb => hS q z hz b (by simp [RQ.T, hb])), h2, h3⟩
  nw q z hz b hb := by
    obtain ⟨h1, h2, h3⟩ := h.nw q z hz b hb
    exact ⟨h1, h2, Nat.lt_of_lt_of_le h3 hk.size⟩
  dis := h.dis
theorem Inv6.kp0 (h : Inv6 w0 W ba Q) (hk : Kp [] W W') : Inv6 w0 W' ba Q := h.kp hk (by simp)
/-- one row turns -/
theorem Inv6.set (h : Inv6 w0 W ba Q) {i : Nat} {z z' : RQ} (hz : Q[i]? = some z) {S : List Nat} (hk : Kp S W W') (hS : ∀ b, b ∈ S → b ∈ z.T) (hw : w0.heap.size ≤ W.heap.size) (hba : ba < W.heap.size)
    (hT : ∀ b, b ∈ z'.T → (b ∈ z.T ∨ W.heap.size ≤ b) ∧ b < W'.heap.size) (hg : Gw W' 3 1 fI z'.x.ad z'.rs z'.y.ad z'.y.cap z'.ms) (h1 : z'.rs.length = z'.x.n) (h2 : z'.ms.length = z'.y.n) : Inv6 w0 W' ba (Q.set i z') := by
  have hlt := h.nw
  have new : ∀ b, b ∈ z'.T → ∀ (p : Nat) u, p ≠ i → Q[p]? = some u → b ∉ u.T := fun b hb p u hp hu hb2 => by
    rcases (hT b hb).1 with q | q
    · exact h.dis p i u z hp hu hz b hb2 q
    · have := (hlt p u hu b hb2).2.2; omega
  refine ⟨fun q u hu => ?_, fun q u hu b hb => ?_, fun p q u v hpq hu hv b hb hb2 => ?_⟩
  · rcases setR_old hu with ⟨_, rfl⟩ | ⟨hq, hu⟩
    · exact ⟨hg, h1, h2⟩
    · obtain ⟨g1, g2, g3⟩ := h.row q u hu
      have hs : ∀ b, b ∈ u.T → b ∉ S := fun b hb hb2 => h.dis q i u z hq hu hz b hb (hS b hb2)
      exact ⟨g1.kp hk (fun b hb => hs b (by simp [RQ.T, hb])) (fun b hb => hs b (by simp [RQ.T, hb])), g2, g3⟩
  · rcases setR_old hu with ⟨_, rfl⟩ | ⟨hq, hu⟩
    · obtain ⟨q1, q2⟩ := hT b hb
      rcases q1 with q1 | q1
      · obtain ⟨r1, r2, _⟩ := h.nw i z hz b q1
        exact ⟨r1, r2, q2⟩
      · exact ⟨by omega, by omega, q2⟩
    · obtain ⟨r1, r2, r3⟩ := h.nw q u hu b hb
      exact ⟨r1, r2, Nat.lt_of_lt_of_le r3 hk.size⟩
  · rcases setR_old hu with ⟨e1, e2⟩ | ⟨hp, hu'⟩
    · rcases setR_old hv with ⟨e3, e4⟩ | ⟨hq, hv'⟩
      · exact hpq (e1.trans e3.symm)
      · rw [e2] at hb; exact new b hb q v hq hv' hb2
    · rcases setR_old hv with ⟨e3, e4⟩ | ⟨hq, hv'⟩
      · rw [e4] at hb2; exact new b hb2 p u hp hu' hb
      · exact h.dis p q u v hpq hu' hv' b hb hb2
/-- a number of an untouched row is overwritten -/
theorem Inv6.over (h : Inv6 w0 W ba Q) {i j : Nat} {z : RQ} (hz : Q[i]? = some z) (he : z.y = z.x ∧ z.ms = z.rs) (hj : j < z.x.n) (hw : w0.heap.size ≤ W.heap.size) (hba : ba < W.heap.size) (v : Int) :
    ∃ b L, z.x.ad = some ⟨b, 0, none⟩ ∧ Blk W b L 3 ∧ j < L.length ∧ b ∈ z.T ∧ ∀ W', Upd W b (.cells ⟨L.set j (I v)⟩ 3 (0, 0)) W' → Inv6 w0 W' ba (Q.set i { z with rs := z.rs.set j v, ms := z.rs.set j v }) := by
  obtain ⟨h1, h2, h3⟩ := h.row i z hz
  have ho := h1.own
  rw [he.1, he.2] at ho
  obtain ⟨b, L, q1, q2, q3, _, q5⟩ := ho.rec (m := 1) (fun _ => rfl) (by omega) (i := j) (by omega)
  have hbT : b ∈ z.T := by simp [RQ.T, q1, blkOf]
  refine ⟨b, L, q1, q2, by omega, hbT, fun W' hu => ?_⟩
  have hW := q5 v W' (by rw [set1_many, Nat.mul_one]; exact hu)
  have hk : Kp [b] W W' := hu.kp _ (.inl (by simp))
  refine h.set hz hk (fun c hc => by simp at hc; exact hc ▸ hbT) hw hba (fun c hc => ⟨.inl hc, Nat.lt_of_lt_of_le (h.nw i z hz c hc).2.2 hk.size⟩) ?_ (by simp [h2]) (by simp [← h2, he.1])
  have hg : Gw W' 3 1 fI z.x.ad (z.rs.set j v) z.x.ad z.x.cap (z.rs.set j v) := Gw.of (by rw [List.length_set]; exact hW)
  show Gw W' 3 1 fI z.x.ad (z.rs.set j v) z.y.ad z.y.cap (z.rs.set j v)
  rw [he.1]
  exact hg
/-- a row grows by one -/
theorem Inv6.push (h : Inv6 w0 W ba Q) {i : Nat} {z : RQ} (hz : Q[i]? = some z) (hw : w0.heap.size ≤ W.heap.size) (hba : ba < W.heap.size) {v : Int} {ad' : Option Addr} {cap' : Nat}
    (ho : OwnS W' 3 1 ad' (z.y.n + 1) cap' (z.ms.flatMap fI ++ [I v])) (hk : Kp (blkOf z.y.ad) W W') (hn : ∀ b, b ∈ blkOf ad' → b ∈ blkOf z.y.ad ∨ W.heap.size ≤ b) (hq : ad' = z.y.ad ∨ (Kp [] W W' ∧ ∀ b, b ∈ blkOf ad' → W.heap.size ≤ b)) :
    Inv6 w0 W' ba (Q.set i { z with y := ⟨ad', z.y.n + 1, cap'⟩, ms := z.ms ++ [v] }) := by
  obtain ⟨h1, h2, h3⟩ := h.row i z hz
  refine h.set hz hk (fun b hb => by simp [RQ.T, hb]) hw hba (fun b hb => ?_) (Gw.push (f := fI) (m := 1) (fun _ => rfl) h1 (by rw [h3]; exact ho) hk hq) h2 (by simp [h3])
  rcases List.mem_append.1 hb with hb | hb
  · exact ⟨.inl (by simp [RQ.T, show b ∈ blkOf z.x.ad from hb]), Nat.lt_of_lt_of_le (h.nw i z hz b (by simp [RQ.T, show b ∈ blkOf z.x.ad from hb])).2.2 hk.size⟩
  · refine ⟨?_, ho.lt b hb⟩
    rcases hn b hb with q | q
    · exact .inl (by simp [RQ.T, q])
    · exact .inr q
theorem Inv6.nil (w0 W : World) (ba : Nat) : Inv6 w0 W ba [] := ⟨fun q z hz => by simp at hz, fun q z hz => by simp at hz, fun p q z u _ hz => by simp at hz⟩
/-- one row more is told -/
theorem Inv6.snoc (h : Inv6 w0 W ba Q) (hw : w0.heap.size ≤ W.heap.size) {l : List Nat} {ad : Option Addr} {cap : Nat} (hn : NewS W 3 W' ad l.length cap (l.map encI)) :
    Inv6 w0 W' W'.heap.size (Q ++ [⟨⟨ad, l.length, cap⟩, ⟨ad, l.length, cap⟩, l.map fun k : Nat => (k : Int), l.map fun k : Nat => (k : Int)⟩]) := by
  have h' := h.kp0 hn.kp
  have hlt := hn.own.lt
  have hget : ∀ (q : Nat) z, (Q ++ [(⟨⟨ad, l.length, cap⟩, ⟨ad, l.length, cap⟩, l.map fun k : Nat => (k : Int), l.map fun k : Nat => (k : Int)⟩ : RQ)])[q]? = some z → Q[q]? = some z ∨ (q = Q.length ∧ z = ⟨⟨ad, l.length, cap⟩, ⟨ad, l.length, cap⟩, l.map fun k : Nat => (k : Int), l.map fun k : Nat => (k : Int)⟩) := fun q z hz => by
    by_cases c : q < Q.length
    · rw [List.getElem?_append_left c] at hz; exact .inl hz
    · rw [List.getElem?_append_right (by omega)] at hz
      have c2 : q - Q.length = 0 := by
        rcases Nat.eq_zero_or_pos (q - Q.length) with e | e
        · exact e
        · rw [List.getElem?_eq_none (by simp; omega)] at hz; cases hz
      rw [c2] at hz
      simp at hz
      exact .inr ⟨by omega, hz.symm⟩
  have hT : ∀ b, b ∈ (⟨⟨ad, l.length, cap⟩, ⟨ad, l.length, cap⟩, l.map fun k : Nat => (k : Int), l.map fun k : Nat => (k : Int)⟩ : RQ).T → b ∈ blkOf ad := fun b hb => by
    rcases List.mem_append.1 hb with hb | hb <;> exact hb
  refine ⟨fun q z hz => ?_, fun q z hz b hb => ?_, fun p q z u hpq hz hu b hb hb2 => ?_⟩
  · rcases hget q z hz with g | ⟨_, rfl⟩
    · exact h'.row q z g
    · refine ⟨Gw.of ?_, by simp, by simp⟩
      have e : (l.map fun k : Nat => (k : Int)).flatMap fI = l.map encI := by rw [encI_map, ← List.map_eq_flatMap]
      rw [e, List.length_map]
      exact hn.own
  · rcases hget q z hz with g | ⟨_, rfl⟩
    · obtain ⟨r1, _, r3⟩ := h'.nw q z g b hb
      exact ⟨r1, by omega, r3⟩
    · have := hn.new b (hT b hb)
      have := hlt b (hT b hb)
      exact ⟨by omega, by omega, by omega⟩
  · rcases hget p z hz with g | ⟨e1, e2⟩
    · rcases hget q u hu with g' | ⟨e3, e4⟩
      · exact h.dis p q z u hpq g g' b hb hb2
      · rw [e4] at hb2
        have := hn.new b (hT b hb2); have := (h.nw p z g b hb).2.2; omega
    · rcases hget q u hu with g' | ⟨e3, e4⟩
      · rw [e2] at hb
        have := hn.new b (hT b hb); have := (h.nw q u g' b hb2).2.2; omega
      · exact hpq (e1.trans e3.symm)
theorem Inv6.rebase (h : Inv6 w0 W ba Q) (hk : Kp [] W W') {ba' : Nat} (hb : W.heap.size ≤ ba') : Inv6 w0 W' ba' Q :=
  ⟨(h.kp0 hk).row, fun q z hz b hb2 => by
    obtain ⟨r1, _, r3⟩ := h.nw q z hz b hb2
    exact ⟨r1, by omega, Nat.lt_of_lt_of_le r3 hk.size⟩, h.dis⟩
end
end Go.Vc
