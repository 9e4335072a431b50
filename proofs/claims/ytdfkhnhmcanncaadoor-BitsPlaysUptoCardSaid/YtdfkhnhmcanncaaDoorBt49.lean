/- bits: BitsPlays. -/
import Derived.Test.YtdfkhnhmcanncaaDoorBt47
import Derived.Test.YtdfkhnhmcanncaaDoorVcRd
import Derived.Test.YtdfkhnhmcanncaaDoorRows
import Derived.ChangeSlices
namespace Go.Vc
open Go Go.Proofs
set_option maxRecDepth 10000
variable {w : World}
def opsV (xs : List Opg) : List Value := xs.flatMap opC
theorem opsV_len (es : List Opg) : (opsV es).length = 6 * es.length := by
  induction es with
  | nil => rfl
  | cons x r ih => unfold opsV at *; rw [List.flatMap_cons, List.length_append, ih]; simp [opC]; omega
theorem opsV_get : ∀ {es : List Opg} {i : Nat} {e : Opg}, es[i]? = some e → ∀ j v, (opC e)[j]? = some v → (opsV es)[i * 6 + j]? = some v
  | [], i, e, h, _, _, _ => by simp at h
  | x :: r, 0, e, h, j, v, hv => by
    simp at h; subst h
    unfold opsV
    rw [List.flatMap_cons, Nat.zero_mul, Nat.zero_add, List.getElem?_append_left ((List.getElem?_eq_some_iff.1 hv).1)]
    exact hv
  | x :: r, i + 1, e, h, j, v, hv => by
    have := opsV_get (es := r) (i := i) (e := e) (by simpa using h) j v hv
    unfold opsV at *
    have l6 : (opC x).length = 6 := rfl
    rw [List.flatMap_cons, List.getElem?_append_right (by omega)]
    have e1 : (i + 1) * 6 + j - (opC x).length = i * 6 + j := by omega
    rw [e1]; exact this
theorem PX.start {w1 w2 : World} {W : Nat} (hT : TabW w) (k1 : Kp [] w w1) (hW : W = w1.heap.size) (hu : Upd w1 W (.cells ⟨rowL 15 (wf (fun _ => none) (fun _ => none) (fun _ => 0) (fun _ => []))⟩ 90 (0, 0)) w2) :
    PX w w2 W (fun _ => none) ⟨fun _ => none, fun _ => 0, fun _ => [], [0], [], [], [], []⟩ := by
  have k2 : Kp [] w1 w2 := hu.kp [] (.inr (by omega))
  have z1 := k1.size
  have zt := hT.lt
  refine ⟨⟨k1.trans k2, hu.blk, fun i hi => SlAt.none, fun k hk => ownS_nil _ _ _, hT.kp (k1.trans k2) (by simp), by simp, ?_⟩, ⟨by simp, by simp, rfl, by simp⟩, ⟨rfl, rfl, rfl, rfl, rfl, rfl, rfl⟩⟩
  have hD : ∀ i b, b ∈ DD (fun _ => none) W (fun _ => none) [0] i → (i = 11 ∧ b = W) ∨ (i = 12 ∧ b = 0) := by
    intro i b hb
    unfold DD at hb
    by_cases h4 : i < 4
    · rw [if_pos h4] at hb; simp [slb] at hb
    · rw [if_neg h4] at hb
      by_cases h11 : i < 11
      · rw [if_pos h11] at hb; simp [blkOf] at hb
      · rw [if_neg h11] at hb
        by_cases e11 : i = 11
        · rw [if_pos e11] at hb; simp at hb; exact .inl ⟨e11, hb⟩
        · rw [if_neg e11] at hb
          by_cases e12 : i = 12
          · rw [if_pos e12] at hb; simp at hb; exact .inr ⟨e12, hb⟩
          · rw [if_neg e12] at hb; simp at hb
  refine ⟨fun i b hb => ?_, fun i j b hij hb hb2 => ?_, fun i b hi hb => ?_⟩
  · have := hu.lt
    have := k2.size
    rcases hD i b hb with ⟨_, e⟩ | ⟨_, e⟩ <;> omega
  · rcases hD i b hb with ⟨_, e⟩ | ⟨_, e⟩ <;> rcases hD j b hb2 with ⟨_, e'⟩ | ⟨_, e'⟩ <;> omega
  · rcases hD i b hb with ⟨_, e⟩ | ⟨_, e⟩ <;> omega
set_option maxHeartbeats 6400000 in
theorem BitsPlays_ret (hT : TabW w) {ad : Option Addr} {xs : List Opg} {c : Nat} (h : ReadS w ad (opsV xs)) (hl : xs.length ≤ 1048576) (hok : ∀ x ∈ xs, OpOk w x) :
    Ret Tryd.prog 8 [.slice ad xs.length c] w (fun v w' => v = .bool true ∧ Kp [] w w') := by
  refine enter Tryd.call8 Tryd.func8 rfl rfl rfl rfl ?_
  (repeat first|refine zA ?_|refine zB ?_|refine zC ?_|refine zD ?_|refine zE ?_|refine zg ?_|refine zo rfl rfl (by first|exact trivial|(simp only[AllP];omega)|(simp(discharger:=omega)only[AllP,cA,cB];omega)|(simp only[AllP,cC,cD,cE,cF,cG];omega)) ?_|refine zn ?_|refine zb ?_|refine ze rfl ?_|refine zr ?_|refine zk ?_|refine zT rfl rfl rfl ?_|refine zU rfl rfl rfl ?_|refine zV rfl rfl rfl ?_|refine zf rfl ?_|refine zt rfl ?_)
  refine o_call (lives_ret hT) rfl rfl rfl ?_
  rintro v w1 ⟨rfl, k1⟩
  (repeat first|refine zA ?_|refine zB ?_|refine zC ?_|refine zD ?_|refine zE ?_|refine zg ?_|refine zo rfl rfl (by first|exact trivial|(simp only[AllP];omega)|(simp(discharger:=omega)only[AllP,cA,cB];omega)|(simp only[AllP,cC,cD,cE,cF,cG];omega)) ?_|refine zn ?_|refine zb ?_|refine ze rfl ?_|refine zr ?_|refine zk ?_|refine zT rfl rfl rfl ?_|refine zU rfl rfl rfl ?_|refine zV rfl rfl rfl ?_|refine zf rfl ?_|refine zt rfl ?_)
  refine o_build (rowL 15 (wf (fun _ => none) (fun _ => none) (fun _ => 0) (fun _ => []))) rfl rfl rfl rfl rfl rfl rfl ?_
  refine o_box rfl rfl rfl ?_
  intro W w2 hW hu2
  have hg2 := PX.start hT k1 hW hu2
  (repeat first|refine zA ?_|refine zB ?_|refine zC ?_|refine zD ?_|refine zE ?_|refine zg ?_|refine zo rfl rfl (by first|exact trivial|(simp only[AllP];omega)|(simp(discharger:=omega)only[AllP,cA,cB];omega)|(simp only[AllP,cC,cD,cE,cF,cG];omega)) ?_|refine zn ?_|refine zb ?_|refine ze rfl ?_|refine zr ?_|refine zk ?_|refine zT rfl rfl rfl ?_|refine zU rfl rfl rfl ?_|refine zV rfl rfl rfl ?_|refine zf rfl ?_|refine zt rfl ?_)
  refine r_loop (α := Nat) [0, 3, 4] (fun i => [.slice ad xs.length c, ptr W, I i]) (fun i w' => (∃ sl g, PX w w' W sl g ∧ g.ents.length ≤ 4 * i ∧ g.sqs.length ≤ i) ∧ i ≤ xs.length) (fun i => xs.length - i) 0 rfl ⟨⟨_, _, hg2, by simp, by simp⟩, by omega⟩ ?_
  rintro i e w3 ⟨⟨sl, g, hg, hc1, hc2⟩, hi⟩
  (repeat first|refine zA ?_|refine zB ?_|refine zC ?_|refine zD ?_|refine zE ?_|refine zg ?_|refine zo rfl rfl (by first|exact trivial|(simp only[AllP];omega)|(simp(discharger:=omega)only[AllP,cA,cB];omega)|(simp only[AllP,cC,cD,cE,cF,cG];omega)) ?_|refine zn ?_|refine zb ?_|refine ze rfl ?_|refine zr ?_|refine zk ?_|refine zT rfl rfl rfl ?_|refine zU rfl rfl rfl ?_|refine zV rfl rfl rfl ?_|refine zf rfl ?_|refine zt rfl ?_)
  refine r_if rfl (fun hc => ?_) (fun hc => ?_)
  · have hlt : i < xs.length := by omega
    obtain ⟨x, hx⟩ : ∃ x, xs[i]? = some x := ⟨_, List.getElem?_eq_getElem hlt⟩
    have hxo := (hok x (List.mem_of_getElem? hx)).kp hg.pi.kp
    obtain ⟨b, off, rfl, hb, hcell⟩ := h.at_ (by rw [opsV_len]; omega)
    (repeat first|refine zA ?_|refine zB ?_|refine zC ?_|refine zD ?_|refine zE ?_|refine zg ?_|refine zo rfl rfl (by first|exact trivial|(simp only[AllP];omega)|(simp(discharger:=omega)only[AllP,cA,cB];omega)|(simp only[AllP,cC,cD,cE,cF,cG];omega)) ?_|refine zn ?_|refine zb ?_|refine ze rfl ?_|refine zr ?_|refine zk ?_|refine zT rfl rfl rfl ?_|refine zU rfl rfl rfl ?_|refine zV rfl rfl rfl ?_|refine zf rfl ?_|refine zt rfl ?_)
    refine o_loadA (vs := opC x) rfl (fun j v hv => ?_) rfl rfl rfl rfl rfl rfl ?_
    · have h1 := hcell _ _ (opsV_get hx j v hv)
      rw [Nat.add_assoc, ← h1]
      exact World.cell?_of_block (hg.pi.kp.at_ b hb (by simp))
    (repeat first|refine zA ?_|refine zB ?_|refine zC ?_|refine zD ?_|refine zE ?_|refine zg ?_|refine zo rfl rfl (by first|exact trivial|(simp only[AllP];omega)|(simp(discharger:=omega)only[AllP,cA,cB];omega)|(simp only[AllP,cC,cD,cE,cF,cG];omega)) ?_|refine zn ?_|refine zb ?_|refine ze rfl ?_|refine zr ?_|refine zk ?_|refine zT rfl rfl rfl ?_|refine zU rfl rfl rfl ?_|refine zV rfl rfl rfl ?_|refine zf rfl ?_|refine zt rfl ?_)
    refine o_call (step_ret hg hxo (by omega) (by omega)) rfl rfl rfl ?_
    rintro v w4 ⟨rfl, sl', g', hg', hc1', hc2'⟩
    (repeat first|refine zA ?_|refine zB ?_|refine zC ?_|refine zD ?_|refine zE ?_|refine zg ?_|refine zo rfl rfl (by first|exact trivial|(simp only[AllP];omega)|(simp(discharger:=omega)only[AllP,cA,cB];omega)|(simp only[AllP,cC,cD,cE,cF,cG];omega)) ?_|refine zn ?_|refine zb ?_|refine ze rfl ?_|refine zr ?_|refine zk ?_|refine zT rfl rfl rfl ?_|refine zU rfl rfl rfl ?_|refine zV rfl rfl rfl ?_|refine zf rfl ?_|refine zt rfl ?_)
    refine o_call (stands_ret hg' (by omega)) rfl rfl rfl ?_
    rintro v w5 ⟨rfl, rfl⟩
    (repeat first|refine zA ?_|refine zB ?_|refine zC ?_|refine zD ?_|refine zE ?_|refine zg ?_|refine zo rfl rfl (by first|exact trivial|(simp only[AllP];omega)|(simp(discharger:=omega)only[AllP,cA,cB];omega)|(simp only[AllP,cC,cD,cE,cF,cG];omega)) ?_|refine zn ?_|refine zb ?_|refine ze rfl ?_|refine zr ?_|refine zk ?_|refine zT rfl rfl rfl ?_|refine zU rfl rfl rfl ?_|refine zV rfl rfl rfl ?_|refine zf rfl ?_|refine zt rfl ?_)
    exact ⟨i + 1, rfl, ⟨⟨sl', g', hg', by omega, by omega⟩, by omega⟩, by omega⟩
  (repeat first|refine zA ?_|refine zB ?_|refine zC ?_|refine zD ?_|refine zE ?_|refine zg ?_|refine zo rfl rfl (by first|exact trivial|(simp only[AllP];omega)|(simp(discharger:=omega)only[AllP,cA,cB];omega)|(simp only[AllP,cC,cD,cE,cF,cG];omega)) ?_|refine zn ?_|refine zb ?_|refine ze rfl ?_|refine zr ?_|refine zk ?_|refine zT rfl rfl rfl ?_|refine zU rfl rfl rfl ?_|refine zV rfl rfl rfl ?_|refine zf rfl ?_|refine zt rfl ?_)
  refine r_loop (α := Nat) [3, 5] (fun i => [ptr W, I i]) (fun i w' => PX w w' W sl g ∧ i ≤ 4) (fun i => 4 - i) 0 rfl ⟨hg, by omega⟩ ?_
  rintro j e w4 ⟨hg4, hj⟩
  (repeat first|refine zA ?_|refine zB ?_|refine zC ?_|refine zD ?_|refine zE ?_|refine zg ?_|refine zo rfl rfl (by first|exact trivial|(simp only[AllP];omega)|(simp(discharger:=omega)only[AllP,cA,cB];omega)|(simp only[AllP,cC,cD,cE,cF,cG];omega)) ?_|refine zn ?_|refine zb ?_|refine ze rfl ?_|refine zr ?_|refine zk ?_|refine zT rfl rfl rfl ?_|refine zU rfl rfl rfl ?_|refine zV rfl rfl rfl ?_|refine zf rfl ?_|refine zt rfl ?_)
  refine r_if rfl (fun hc => ?_) (fun hc => ?_)
  · have hj4 : j < 4 := by omega
    (repeat first|refine zA ?_|refine zB ?_|refine zC ?_|refine zD ?_|refine zE ?_|refine zg ?_|refine zo rfl rfl (by first|exact trivial|(simp only[AllP];omega)|(simp(discharger:=omega)only[AllP,cA,cB];omega)|(simp only[AllP,cC,cD,cE,cF,cG];omega)) ?_|refine zn ?_|refine zb ?_|refine ze rfl ?_|refine zr ?_|refine zk ?_|refine zT rfl rfl rfl ?_|refine zU rfl rfl rfl ?_|refine zV rfl rfl rfl ?_|refine zf rfl ?_|refine zt rfl ?_)
    refine r_seq ?_
    refine r_mix (fun w' => Blk w' W (rowL 15 (wf sl g.ad g.cp g.row)) 90) [(0, false), (1, false), (2, false), (3, false), (4, false), (5, false), (7, false), (8, false), (9, false), (10, false), (11, false), (12, false), (6, true), (13, true), (14, true), (15, false), (16, false), (17, false), (18, false), (19, false), (20, false), (21, false), (22, false), (24, false), (25, false), (26, false), (27, false), (28, false), (29, false), (23, true), (30, true), (31, false), (32, false)] follows_mixed (by kernel_rfl) (by kernel_rfl) (by kernel_rfl) ((Sm.drew w4).blk hg4.pi.hdr) ?_
    have gd := hg4.sm (Sm.drew w4)
    generalize ({ w4 with drawn := w4.drawn + 1 } : World) = w5 at gd ⊢
    (repeat first|refine xo rfl rfl (by first|exact trivial|(simp only[AllP];omega)|(simp(discharger:=omega)only[AllP,cA,cB];omega)|(simp only[AllP,cC,cD,cE,cF,cG];omega)) ?_|refine xn ?_|refine x_know rfl _ _ (some true) rfl rfl rfl ?_|refine x_know rfl _ _ (some false) rfl rfl rfl ?_|refine x_know rfl _ _ none rfl rfl rfl ?_)
    have hsl := gd.pi.slots j hj4
    refine x_load (b := W) (off := j) (v := sv (sl j)) rfl ?_ (fun w' h' => h'.cell (gd.svc hj4)) rfl rfl rfl rfl ?_
    · show Value.pointer (some ⟨W, 0 + j, none⟩) = _
      rw [Nat.zero_add]
    (repeat first|refine xo rfl rfl (by first|exact trivial|(simp only[AllP];omega)|(simp(discharger:=omega)only[AllP,cA,cB];omega)|(simp only[AllP,cC,cD,cE,cF,cG];omega)) ?_|refine xn ?_|refine x_know rfl _ _ (some true) rfl rfl rfl ?_|refine x_know rfl _ _ (some false) rfl rfl rfl ?_|refine x_know rfl _ _ none rfl rfl rfl ?_)
    refine x_load (b := W) (off := 4 + j) (v := rv (sl j)) rfl rfl (fun w' h' => h'.cell (gd.rvc hj4)) rfl rfl rfl rfl ?_
    (repeat first|refine xo rfl rfl (by first|exact trivial|(simp only[AllP];omega)|(simp(discharger:=omega)only[AllP,cA,cB];omega)|(simp only[AllP,cC,cD,cE,cF,cG];omega)) ?_|refine xn ?_|refine x_know rfl _ _ (some true) rfl rfl rfl ?_|refine x_know rfl _ _ (some false) rfl rfl rfl ?_|refine x_know rfl _ _ none rfl rfl rfl ?_)
    refine x_act rfl ?_
    refine o_call (ListO gd.pi.tab hsl) rfl rfl rfl ?_
    rintro v w6 ⟨a6, c6, rfl, n6⟩
    have g6 := gd.kp0 n6.kp
    refine o_nil ⟨.inr g6.pi.hdr, ?_⟩
    (repeat first|refine xo rfl rfl (by first|exact trivial|(simp only[AllP];omega)|(simp(discharger:=omega)only[AllP,cA,cB];omega)|(simp only[AllP,cC,cD,cE,cF,cG];omega)) ?_|refine xn ?_|refine x_know rfl _ _ (some true) rfl rfl rfl ?_|refine x_know rfl _ _ (some false) rfl rfl rfl ?_|refine x_know rfl _ _ none rfl rfl rfl ?_)
    refine x_act rfl ?_
    refine o_call (refListO (g6.pi.slots j hj4)) rfl rfl rfl ?_
    rintro v w7 ⟨a7, c7, rfl, n7⟩
    have g7 := g6.kp0 n7.kp
    refine o_nil ⟨.inr g7.pi.hdr, ?_⟩
    (repeat first|refine xo rfl rfl (by first|exact trivial|(simp only[AllP];omega)|(simp(discharger:=omega)only[AllP,cA,cB];omega)|(simp only[AllP,cC,cD,cE,cF,cG];omega)) ?_|refine xn ?_|refine x_know rfl _ _ (some true) rfl rfl rfl ?_|refine x_know rfl _ _ (some false) rfl rfl rfl ?_|refine x_know rfl _ _ none rfl rfl rfl ?_)
    refine x_act rfl ?_
    have hlen := el_len hsl
    have q1 := n6.read.kp n7.kp (by simp)
    have q2 := n7.read
    rw [map_encI] at q1 q2
    refine o_call (same_yes q1 q2 (by simp) (by simp) (by omega)) rfl rfl rfl ?_
    rintro v w8 ⟨rfl, s8⟩
    have g8 := g7.sm s8
    refine o_nil ⟨.inr g8.pi.hdr, ?_⟩
    (repeat first|refine xo rfl rfl (by first|exact trivial|(simp only[AllP];omega)|(simp(discharger:=omega)only[AllP,cA,cB];omega)|(simp only[AllP,cC,cD,cE,cF,cG];omega)) ?_|refine xn ?_|refine x_know rfl _ _ (some true) rfl rfl rfl ?_|refine x_know rfl _ _ (some false) rfl rfl rfl ?_|refine x_know rfl _ _ none rfl rfl rfl ?_)
    refine x_load (b := W) (off := j) (v := sv (sl j)) rfl ?_ (fun w' h' => h'.cell (gd.svc hj4)) rfl rfl rfl rfl ?_
    · show Value.pointer (some ⟨W, 0 + j, none⟩) = _
      rw [Nat.zero_add]
    (repeat first|refine xo rfl rfl (by first|exact trivial|(simp only[AllP];omega)|(simp(discharger:=omega)only[AllP,cA,cB];omega)|(simp only[AllP,cC,cD,cE,cF,cG];omega)) ?_|refine xn ?_|refine x_know rfl _ _ (some true) rfl rfl rfl ?_|refine x_know rfl _ _ (some false) rfl rfl rfl ?_|refine x_know rfl _ _ none rfl rfl rfl ?_)
    refine x_load (b := W) (off := 4 + j) (v := rv (sl j)) rfl rfl (fun w' h' => h'.cell (gd.rvc hj4)) rfl rfl rfl rfl ?_
    (repeat first|refine xo rfl rfl (by first|exact trivial|(simp only[AllP];omega)|(simp(discharger:=omega)only[AllP,cA,cB];omega)|(simp only[AllP,cC,cD,cE,cF,cG];omega)) ?_|refine xn ?_|refine x_know rfl _ _ (some true) rfl rfl rfl ?_|refine x_know rfl _ _ (some false) rfl rfl rfl ?_|refine x_know rfl _ _ none rfl rfl rfl ?_)
    refine x_act rfl ?_
    refine o_call (LenO (g8.pi.slots j hj4)) rfl rfl rfl ?_
    rintro v w9 ⟨rfl, rfl⟩
    refine o_nil ⟨.inr g8.pi.hdr, ?_⟩
    (repeat first|refine xo rfl rfl (by first|exact trivial|(simp only[AllP];omega)|(simp(discharger:=omega)only[AllP,cA,cB];omega)|(simp only[AllP,cC,cD,cE,cF,cG];omega)) ?_|refine xn ?_|refine x_know rfl _ _ (some true) rfl rfl rfl ?_|refine x_know rfl _ _ (some false) rfl rfl rfl ?_|refine x_know rfl _ _ none rfl rfl rfl ?_)
    refine x_act rfl ?_
    refine o_call (refLenO (g8.pi.slots j hj4)) rfl rfl rfl ?_
    rintro v w10 ⟨rfl, rfl⟩
    refine o_nil ⟨.inr g8.pi.hdr, ?_⟩
    (repeat first|refine xo rfl rfl (by first|exact trivial|(simp only[AllP];omega)|(simp(discharger:=omega)only[AllP,cA,cB];omega)|(simp only[AllP,cC,cD,cE,cF,cG];omega)) ?_|refine xn ?_|refine x_know rfl _ _ (some true) rfl rfl rfl ?_|refine x_know rfl _ _ (some false) rfl rfl rfl ?_|refine x_know rfl _ _ none rfl rfl rfl ?_)
    refine r_no rfl (by simp) ?_
    (repeat first|refine zA ?_|refine zB ?_|refine zC ?_|refine zD ?_|refine zE ?_|refine zg ?_|refine zo rfl rfl (by first|exact trivial|(simp only[AllP];omega)|(simp(discharger:=omega)only[AllP,cA,cB];omega)|(simp only[AllP,cC,cD,cE,cF,cG];omega)) ?_|refine zn ?_|refine zb ?_|refine ze rfl ?_|refine zr ?_|refine zk ?_|refine zT rfl rfl rfl ?_|refine zU rfl rfl rfl ?_|refine zV rfl rfl rfl ?_|refine zf rfl ?_|refine zt rfl ?_)
    exact ⟨j + 1, rfl, ⟨g8, by omega⟩, by omega⟩
  (repeat first|refine zA ?_|refine zB ?_|refine zC ?_|refine zD ?_|refine zE ?_|refine zg ?_|refine zo rfl rfl (by first|exact trivial|(simp only[AllP];omega)|(simp(discharger:=omega)only[AllP,cA,cB];omega)|(simp only[AllP,cC,cD,cE,cF,cG];omega)) ?_|refine zn ?_|refine zb ?_|refine ze rfl ?_|refine zr ?_|refine zk ?_|refine zT rfl rfl rfl ?_|refine zU rfl rfl rfl ?_|refine zV rfl rfl rfl ?_|refine zf rfl ?_|refine zt rfl ?_)
  refine o_call (told_ret hg4 (by omega)) rfl rfl rfl ?_
  rintro v w5 ⟨rfl, k5⟩
  have hg5 := hg4.kp0 k5
  (repeat first|refine zA ?_|refine zB ?_|refine zC ?_|refine zD ?_|refine zE ?_|refine zg ?_|refine zo rfl rfl (by first|exact trivial|(simp only[AllP];omega)|(simp(discharger:=omega)only[AllP,cA,cB];omega)|(simp only[AllP,cC,cD,cE,cF,cG];omega)) ?_|refine zn ?_|refine zb ?_|refine ze rfl ?_|refine zr ?_|refine zk ?_|refine zT rfl rfl rfl ?_|refine zU rfl rfl rfl ?_|refine zV rfl rfl rfl ?_|refine zf rfl ?_|refine zt rfl ?_)
  refine o_call (stands_ret hg5 (by omega)) rfl rfl rfl ?_
  rintro v w6 ⟨rfl, rfl⟩
  (repeat first|refine zA ?_|refine zB ?_|refine zC ?_|refine zD ?_|refine zE ?_|refine zg ?_|refine zo rfl rfl (by first|exact trivial|(simp only[AllP];omega)|(simp(discharger:=omega)only[AllP,cA,cB];omega)|(simp only[AllP,cC,cD,cE,cF,cG];omega)) ?_|refine zn ?_|refine zb ?_|refine ze rfl ?_|refine zr ?_|refine zk ?_|refine zT rfl rfl rfl ?_|refine zU rfl rfl rfl ?_|refine zV rfl rfl rfl ?_|refine zf rfl ?_|refine zt rfl ?_)
  refine o_call (lives_ret hg5.pi.tab) rfl rfl rfl ?_
  rintro v w7 ⟨rfl, k7⟩
  (repeat first|refine zA ?_|refine zB ?_|refine zC ?_|refine zD ?_|refine zE ?_|refine zg ?_|refine zo rfl rfl (by first|exact trivial|(simp only[AllP];omega)|(simp(discharger:=omega)only[AllP,cA,cB];omega)|(simp only[AllP,cC,cD,cE,cF,cG];omega)) ?_|refine zn ?_|refine zb ?_|refine ze rfl ?_|refine zr ?_|refine zk ?_|refine zT rfl rfl rfl ?_|refine zU rfl rfl rfl ?_|refine zV rfl rfl rfl ?_|refine zf rfl ?_|refine zt rfl ?_)
  exact ⟨_, rfl, rfl, hg5.pi.kp.trans k7⟩
end Go.Vc
/- bits: the steps as they come in; BitsPlays as the rows want it. -/
namespace Go.Vc
open Go Go.Proofs Go.ChangeShapes
set_option maxRecDepth 10000
theorem bulk_lenA {H : Type} : ∀ (l : List (DataW H)), l.length ≤ Go.Proofs.YtdfkhnhmcanncaaDoor.Rows.uptoBulkAll l
  | [] => by simp [Go.Proofs.YtdfkhnhmcanncaaDoor.Rows.uptoBulkAll]
  | d :: r => by
    have ih := bulk_lenA r
    have h1 : 1 ≤ Go.Proofs.YtdfkhnhmcanncaaDoor.Rows.uptoBulk d := by
      cases d with
      | lit l => cases l <;> simp [Go.Proofs.YtdfkhnhmcanncaaDoor.Rows.uptoBulk]
      | _ => simp [Go.Proofs.YtdfkhnhmcanncaaDoor.Rows.uptoBulk]
    simp only [List.length_cons, Go.Proofs.YtdfkhnhmcanncaaDoor.Rows.uptoBulkAll]; omega
theorem bulk_mem {H : Type} {d : DataW H} : ∀ {l : List (DataW H)}, d ∈ l → Go.Proofs.YtdfkhnhmcanncaaDoor.Rows.uptoBulk d ≤ Go.Proofs.YtdfkhnhmcanncaaDoor.Rows.uptoBulkAll l
  | [], h => by simp at h
  | x :: r, h => by
    simp only [Go.Proofs.YtdfkhnhmcanncaaDoor.Rows.uptoBulkAll]
    rcases List.mem_cons.1 h with rfl | h
    · omega
    · have := bulk_mem h; omega
theorem bulk_litsN {H : Type} (k : IntKind) (zs : List Int) : Go.Proofs.YtdfkhnhmcanncaaDoor.Rows.uptoBulkAll (lits (H := H) k zs) = zs.length := by
  induction zs with
  | nil => rfl
  | cons z r ih => show Go.Proofs.YtdfkhnhmcanncaaDoor.Rows.uptoBulk (DataW.lit (.int k z)) + Go.Proofs.YtdfkhnhmcanncaaDoor.Rows.uptoBulkAll (lits k r) = _; rw [ih]; simp only [Go.Proofs.YtdfkhnhmcanncaaDoor.Rows.uptoBulk, List.length_cons]; omega
/-- one cell that is a slice of integers -/
theorem rd_row {H : Type} {enc : TypeId × Value → H} {P : Program} {w : World} {base : Nat} {sp : Nat → Bool} {held : Bool} {t e : TypeId} {k : IntKind} {fuel : Nat} {v : Value} {x : DataW H × List MemPlace} (ht : P.underlying t = some (.slice e)) (he : P.underlying e = some (.int k)) (hc : P.cellsOf e = 1)
    (h : DataW.trod enc P w base sp held fuel t [v] = some x) : ∃ a cap, ∃ zs : List Int, v = .slice a zs.length cap ∧ ReadS w a (zs.map (Value.int k)) ∧ (∀ n ∈ zs, (Lit.int k n).wf = true) ∧ zs.length ≤ Go.Proofs.YtdfkhnhmcanncaaDoor.Rows.uptoBulk x.1 := by
  rcases open_ints ht he hc h with ⟨hcs, hx⟩ | ⟨a, l, c, zs, hcs, _, hl, hm, hz, hx, hcell, hwz⟩
  · simp at hcs
    exact ⟨none, 0, [], hcs, rfl, by simp, by simp⟩
  · simp at hcs
    have hlz : l ≤ zs.length := by rw [hz]; split <;> omega
    have hlen : (zs.take l).length = l := by rw [List.length_take]; omega
    refine ⟨some a, c, zs.take l, by rw [hlen]; exact hcs, ?_, fun n hn => hwz n (List.mem_of_mem_take hn), ?_⟩
    · intro i y hy
      rw [List.getElem?_map, List.getElem?_take] at hy
      split at hy
      · rename_i hi
        have hi2 : i < zs.length := by omega
        rw [List.getElem?_eq_getElem hi2] at hy
        simp at hy; subst hy
        rw [hcell i hi2, List.getD_eq_getElem?_getD, List.getElem?_eq_getElem hi2]; rfl
      · simp at hy
    · rw [hx]
      simp only [Go.Proofs.YtdfkhnhmcanncaaDoor.Rows.uptoBulk, bulk_litsN]; omega
theorem flatten_ofP {α β : Type} {f : α → List β} {p : α → Prop} : ∀ (Cs : List (List β)), (∀ cs ∈ Cs, ∃ a, cs = f a ∧ p a) → ∃ l : List α, Cs = l.map f ∧ ∀ x ∈ l, p x
  | [], _ => ⟨[], rfl, by simp⟩
  | c :: r, h => by
    obtain ⟨a, ha, hp⟩ := h c (by simp)
    obtain ⟨l, hl, hq⟩ := flatten_ofP r (fun cs hcs => h cs (by simp [hcs]))
    refine ⟨a :: l, by rw [ha, hl]; rfl, fun x hx => ?_⟩
    rcases List.mem_cons.1 hx with rfl | hx
    · exact hp
    · exact hq x hx
theorem rd_ops {H : Type} {enc : TypeId × Value → H} {w : World} {base : Nat} {sp : Nat → Bool} {held : Bool} {a : Option Addr} {len cap fuel : Nat} {d : DataW H} {ps : List MemPlace}
    (h : DataW.trod enc Tryd.prog w base sp held fuel 81 (Value.slice a len cap).cells.toList = some (d, ps)) :
    ∃ xs : List Opg, (ReadS w a (opsV xs) ∧ xs.length = len ∧ ∀ x ∈ xs, ∀ B, Go.Proofs.YtdfkhnhmcanncaaDoor.Rows.uptoBulk d ≤ B → B ≤ 1048576 → OpOk w x) ∧ xs.length ≤ Go.Proofs.YtdfkhnhmcanncaaDoor.Rows.uptoBulk d := by
  obtain ⟨n, Cs, D, h1, h2, h3, h4, h5, _, _⟩ := trod_recs (m := 6) Tryd.underlying81 (by kernel_rfl) h
  have hall : Go.Proofs.YtdfkhnhmcanncaaDoor.Rows.uptoBulkAll D ≤ Go.Proofs.YtdfkhnhmcanncaaDoor.Rows.uptoBulk d := by
    rcases h5 with ⟨e1, e2⟩ | ⟨spp, e1⟩
    · rw [e2]; simp [Go.Proofs.YtdfkhnhmcanncaaDoor.Rows.uptoBulkAll]
    · dsimp only at e1
      rw [e1]
      simp only [Go.Proofs.YtdfkhnhmcanncaaDoor.Rows.uptoBulk]; omega
  have key : ∀ cs ∈ Cs, ∃ x : Opg, cs = opC x ∧ ∀ B, Go.Proofs.YtdfkhnhmcanncaaDoor.Rows.uptoBulk d ≤ B → B ≤ 1048576 → OpOk w x := by
    intro cs hcs
    obtain ⟨i, hi⟩ := List.getElem?_of_mem hcs
    obtain ⟨g1, d', p', g3, g2⟩ := h4 i cs hi
    obtain ⟨xs, m, _, gx, _, g5, g6⟩ := DataW.trod_struct Tryd.underlying93 g2
    have hd' := bulk_mem (List.mem_of_getElem? g3)
    have gd := congrArg Prod.fst gx
    dsimp only at gd
    match cs, g1 with
    | [c0, c1, c2, c3, c4, c5], _ =>
      have f0 := g6 0 _ rfl
      have f1 := g6 1 _ rfl
      have f2 := g6 2 _ rfl
      have f3 := g6 3 _ rfl
      have f4 := g6 4 _ rfl
      have f5 := g6 5 _ rfl
      have l6 : xs.length = 6 := g5
      rw [List.getElem?_eq_getElem (by omega)] at f0 f1 f2 f3 f4 f5
      obtain ⟨z0, rfl, w0⟩ := trod_int Tryd.underlying3 f0
      obtain ⟨z1, rfl, w1⟩ := trod_int Tryd.underlying3 f1
      obtain ⟨z2, rfl, w2⟩ := trod_int Tryd.underlying3 f2
      obtain ⟨z3, rfl, w3⟩ := trod_int Tryd.underlying3 f3
      obtain ⟨a4, c4, z4, rfl, r4, q4, s4⟩ := rd_row Tryd.underlying22 Tryd.underlying3 (by kernel_rfl) f4
      obtain ⟨a5, c5, z5, rfl, r5, q5, s5⟩ := rd_row Tryd.underlying40 Tryd.underlying41 (by kernel_rfl) f5
      have m4 : Go.Proofs.YtdfkhnhmcanncaaDoor.Rows.uptoBulk xs[4].1 ≤ Go.Proofs.YtdfkhnhmcanncaaDoor.Rows.uptoBulkAll (xs.map (·.1)) := bulk_mem (List.mem_map.2 ⟨_, List.getElem_mem _, rfl⟩)
      have m5 : Go.Proofs.YtdfkhnhmcanncaaDoor.Rows.uptoBulk xs[5].1 ≤ Go.Proofs.YtdfkhnhmcanncaaDoor.Rows.uptoBulkAll (xs.map (·.1)) := bulk_mem (List.mem_map.2 ⟨_, List.getElem_mem _, rfl⟩)
      rw [gd] at hd'
      simp only [Go.Proofs.YtdfkhnhmcanncaaDoor.Rows.uptoBulk] at hd'
      have e5 : z5 = (z5.map Int.toNat).map (fun (n : Nat) => (n : Int)) := by
        rw [List.map_map]
        conv => lhs; rw [show z5 = z5.map id by simp]
        apply List.map_congr_left
        intro y hy
        have := wfU (q5 y hy)
        simp only [id, Function.comp]; omega
      refine ⟨⟨z0, z1, z2, z3, a4, z4, c4, a5, z5.map Int.toNat, c5⟩, by simp [opC], fun B hB hB2 => ⟨wf64 w3, r4, by dsimp only; omega, fun z hz => wf64 (q4 z hz), ?_, ?_, by dsimp only; rw [List.length_map]; omega⟩⟩
      · dsimp only
        rw [e5, List.map_map] at r5
        have : (Value.int IntKind.u64 ∘ fun (n : Nat) => (n : Int)) = U := rfl
        rw [this] at r5; exact r5
      · intro y hy
        obtain ⟨x, hx, rfl⟩ := List.mem_map.1 hy
        have := wfU (q5 x hx)
        omega
  obtain ⟨xs, hxs, hp⟩ := flatten_ofP (f := opC) Cs key
  have hl : xs.length = len := by rw [← h1, hxs]; simp
  refine ⟨xs, ⟨?_, hl, hp⟩, ?_⟩
  · rw [hxs] at h3
    unfold opsV
    rw [List.flatMap_def]; exact h3
  · rw [hl, ← h2]
    have := bulk_lenA D
    omega
theorem bitsPlays_walk {w : World} (hT : TabW w) {a : Option Addr} {len cap : Nat} {xs : List Opg} {B : Nat}
    (h : ReadS w a (opsV xs) ∧ xs.length = len ∧ ∀ x ∈ xs, ∀ B', B ≤ B' → B' ≤ 1048576 → OpOk w x) (hb : xs.length ≤ 1048576) (hB : B ≤ 1048576) :
    Calls Tryd.prog 8 #[.slice a len cap] w (fun e w' => e = .returned (.bool true) ∧ RowKit.Below w.heap.size w w') := by
  obtain ⟨h1, h2, h3⟩ := h
  have := BitsPlays_ret hT (c := cap) h1 hb (fun x hx => h3 x hx B (by omega) hB)
  rw [h2] at this
  exact this.calls
end Go.Vc
