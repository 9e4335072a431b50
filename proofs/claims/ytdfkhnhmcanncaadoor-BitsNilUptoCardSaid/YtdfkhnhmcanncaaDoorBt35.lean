/- bits: the document's sets: right, New, Put, Del, Has, Len, Next. -/
import Derived.Test.YtdfkhnhmcanncaaDoorBt27
namespace Go.Vc
open Go Go.Proofs
set_option maxRecDepth 10000
variable {w : World}

/-- a set's pointer, or nil -/
def optr : Option Nat → Value
  | none => .pointer none
  | some q => ptr q
def rightB (n : Int) : Bool := decide (0 ≤ n) && decide (n < 1048576)
theorem rightB_nat {n : Int} (h : rightB n = true) : ∃ k : Nat, n = (k : Int) ∧ k < 1048576 := by
  unfold rightB at h
  simp at h
  exact ⟨n.toNat, by omega, by omega⟩
theorem rightB_bad {n : Int} (h : rightB n = false) : n < 0 ∨ 1048576 ≤ n := by
  unfold rightB at h
  simp at h
  omega
theorem rightB_of {k : Nat} (h : k < 1048576) : rightB (k : Int) = true := by
  unfold rightB; simp; omega
theorem allOk_iff (l : List Int) : allOk l = l.all rightB := rfl
theorem right_ret (n : Int) : Ret Tryd.prog 87 [I n] w (fun v w' => v = .bool (rightB n) ∧ w' = w) := by
  refine enter Tryd.call87 Tryd.func87 rfl rfl rfl rfl ?_
  (repeat first|refine zA ?_|refine zB ?_|refine zC ?_|refine zD ?_|refine zE ?_|refine zg ?_|refine zo rfl rfl (by first|exact trivial|(simp only[AllP];omega)|(simp(discharger:=omega)only[AllP,cA,cB];omega)|(simp only[AllP,cC,cD,cE,cF,cG];omega)) ?_|refine zn ?_|refine zb ?_|refine ze rfl ?_|refine zr ?_|refine zk ?_|refine zT rfl rfl rfl ?_|refine zU rfl rfl rfl ?_|refine zV rfl rfl rfl ?_|refine zf rfl ?_|refine zt rfl ?_)
  refine o_split 2 true rfl rfl rfl (fun hb => ?_) (fun hb => ?_)
  · have hb' : 0 ≤ n := by simpa using hb
    (repeat first|refine zA ?_|refine zB ?_|refine zC ?_|refine zD ?_|refine zE ?_|refine zg ?_|refine zo rfl rfl (by first|exact trivial|(simp only[AllP];omega)|(simp(discharger:=omega)only[AllP,cA,cB];omega)|(simp only[AllP,cC,cD,cE,cF,cG];omega)) ?_|refine zn ?_|refine zb ?_|refine ze rfl ?_|refine zr ?_|refine zk ?_|refine zT rfl rfl rfl ?_|refine zU rfl rfl rfl ?_|refine zV rfl rfl rfl ?_|refine zf rfl ?_|refine zt rfl ?_)
    exact ⟨_, rfl, by simp [rightB, hb'], rfl⟩
  · have hb' : ¬ 0 ≤ n := by simpa using hb
    (repeat first|refine zA ?_|refine zB ?_|refine zC ?_|refine zD ?_|refine zE ?_|refine zg ?_|refine zo rfl rfl (by first|exact trivial|(simp only[AllP];omega)|(simp(discharger:=omega)only[AllP,cA,cB];omega)|(simp only[AllP,cC,cD,cE,cF,cG];omega)) ?_|refine zn ?_|refine zb ?_|refine ze rfl ?_|refine zr ?_|refine zk ?_|refine zT rfl rfl rfl ?_|refine zU rfl rfl rfl ?_|refine zV rfl rfl rfl ?_|refine zf rfl ?_|refine zt rfl ?_)
    exact ⟨_, rfl, by simp [rightB, hb'], rfl⟩

/-- rising, and each below the bound -/
structure Ris (l : List Nat) : Prop where
  sorted : l.Pairwise (· < ·)
  lt : ∀ x ∈ l, x < 1048576
theorem sorted_len {l : List Nat} {N : Nat} (hs : l.Pairwise (· < ·)) (hl : ∀ x ∈ l, x < N) : l.length ≤ N := by
  have e : l = (List.range N).filter (fun x => decide (x ∈ l)) :=
    sorted_ext hs (List.Pairwise.filter _ List.pairwise_lt_range) fun x =>
      ⟨fun hx => List.mem_filter.2 ⟨List.mem_range.2 (hl x hx), decide_eq_true hx⟩, fun hx => of_decide_eq_true (List.mem_filter.1 hx).2⟩
  rw [e]
  refine Nat.le_trans (List.length_filter_le _ _) ?_
  rw [List.length_range]; exact Nat.le_refl _
theorem Ris.len {l : List Nat} (h : Ris l) : l.length ≤ 1048576 := sorted_len h.sorted h.lt
theorem Ris.nil : Ris [] := ⟨List.Pairwise.nil, by simp⟩
theorem Ris.put {l : List Nat} (h : Ris l) {k : Nat} (hk : k < 1048576) : Ris (withL l k) :=
  ⟨sorted_withL h.sorted k, fun x hx => by
    rcases mem_withL.1 hx with hx | rfl
    · exact h.lt x hx
    · exact hk⟩
theorem Ris.filter {l : List Nat} (h : Ris l) (p : Nat → Bool) : Ris (l.filter p) := ⟨h.sorted.filter _, fun x hx => h.lt x (List.mem_filter.1 hx).1⟩
theorem ris_elems {ws : List Nat} (h : ws.length ≤ 16384) : Ris (elems ws) := ⟨elems_sorted ws, elems_lt h⟩
theorem elems_putW (ws : List Nat) (k : Nat) : elems (putW ws k) = withL (elems ws) k :=
  elems_withL fun j => by rw [bit_putW]; congr 1; simp [eq_comm]
theorem elems_delW {ws : List Nat} (hok : WOk ws) (k : Nat) : elems (delW ws k) = (elems ws).filter (fun x => decide (x ≠ k)) :=
  sorted_ext (elems_sorted _) ((elems_sorted _).filter _) fun x => by
    rw [List.mem_filter, mem_elems, mem_elems, bit_delW hok, Bool.and_eq_true, Bool.not_eq_true', decide_eq_false_iff_not, decide_eq_true_eq]
    exact and_congr_right fun _ => ⟨fun h e => h e.symm, fun h e => h e.symm⟩

section
variable {p : Nat} {l : List Nat} {ad : Option Addr} {cap : Nat}
/-- a new list is laid into the block -/
theorem RefAt.lay {w1 w3 : World} {l' : List Nat} {ad' : Option Addr} {cap' : Nat} (h : RefAt w p l ad cap) (hT : TabW w) (hn : NewS w 3 w1 ad' l'.length cap' (l'.map encI))
    (hu3 : Upd w1 p (.cells ⟨[.slice ad' l'.length cap']⟩ 106 (0, 0)) w3) : RefTo w p ad w3 l' ad' cap' :=
  h.put hT (Kp.refl _ _) hn.own (hn.kp.mono (by simp)) (fun b hb => .inr (hn.new b hb)) hu3

theorem refNew_ret (hT : TabW w) {ad : Option Addr} {l : List Int} {cap : Nat} (hr : ReadS w ad (l.map I)) (hl : l.length ≤ 1048576) :
    Ret Tryd.prog 79 [.slice ad l.length cap] w (fun v w' => (allOk l = true ∧ ∃ p ad' cap', v = .tuple #[ptr p, I 0] ∧ NewRef w p w' (elems (newW l [])) ad' cap') ∨ (allOk l = false ∧ v = .tuple #[.pointer none, I 2] ∧ Kp [] w w')) := by
  refine enter Tryd.call79 Tryd.func79 rfl rfl rfl rfl ?_
  (repeat first|refine zA ?_|refine zB ?_|refine zC ?_|refine zD ?_|refine zE ?_|refine zg ?_|refine zo rfl rfl (by first|exact trivial|(simp only[AllP];omega)|(simp(discharger:=omega)only[AllP,cA,cB];omega)|(simp only[AllP,cC,cD,cE,cF,cG];omega)) ?_|refine zn ?_|refine zb ?_|refine ze rfl ?_|refine zr ?_|refine zk ?_|refine zT rfl rfl rfl ?_|refine zU rfl rfl rfl ?_|refine zV rfl rfl rfl ?_|refine zf rfl ?_|refine zt rfl ?_)
  refine o_build [.slice none 0 0] rfl rfl rfl rfl rfl rfl rfl ?_
  refine o_box rfl rfl rfl ?_
  intro p w1 hp hu1
  have hn1 := newRef_box hT hp hu1
  (repeat first|refine zA ?_|refine zB ?_|refine zC ?_|refine zD ?_|refine zE ?_|refine zg ?_|refine zo rfl rfl (by first|exact trivial|(simp only[AllP];omega)|(simp(discharger:=omega)only[AllP,cA,cB];omega)|(simp only[AllP,cC,cD,cE,cF,cG];omega)) ?_|refine zn ?_|refine zb ?_|refine ze rfl ?_|refine zr ?_|refine zk ?_|refine zT rfl rfl rfl ?_|refine zU rfl rfl rfl ?_|refine zV rfl rfl rfl ?_|refine zf rfl ?_|refine zt rfl ?_)
  refine r_loop (α := Nat × Option Addr × Nat) [0, 4, 5] (fun g => [.slice ad l.length cap, ptr p, I g.1]) (fun g w2 => NewRef w p w2 (elems (newW (l.take g.1) [])) g.2.1 g.2.2 ∧ g.1 ≤ l.length ∧ allOk (l.take g.1) = true) (fun g => l.length - g.1) (0, none, 0) rfl ⟨hn1, by omega, rfl⟩ ?_
  rintro ⟨i, ad1, cap1⟩ e w2 ⟨hns, hi, hok⟩
  dsimp only at hns hi hok ⊢
  (repeat first|refine zA ?_|refine zB ?_|refine zC ?_|refine zD ?_|refine zE ?_|refine zg ?_|refine zo rfl rfl (by first|exact trivial|(simp only[AllP];omega)|(simp(discharger:=omega)only[AllP,cA,cB];omega)|(simp only[AllP,cC,cD,cE,cF,cG];omega)) ?_|refine zn ?_|refine zb ?_|refine ze rfl ?_|refine zr ?_|refine zk ?_|refine zT rfl rfl rfl ?_|refine zU rfl rfl rfl ?_|refine zV rfl rfl rfl ?_|refine zf rfl ?_|refine zt rfl ?_)
  refine r_if rfl (fun hc => ?_) (fun hc => ?_)
  · have hlt : i < l.length := by omega
    obtain ⟨x, hx⟩ : ∃ x, l[i]? = some x := ⟨_, List.getElem?_eq_getElem hlt⟩
    have htk : l.take (i + 1) = l.take i ++ [x] := by rw [List.take_add_one, hx]; rfl
    obtain ⟨b, o, rfl, hbl, hcell⟩ := hr.at_ (by simp; omega)
    have hcx : ∀ w', Kp [] w w' → w'.cell? ⟨b, o + i, none⟩ = some (I x) := fun w' hk => by
      rw [← hcell i _ (by rw [List.getElem?_map, hx]; rfl)]
      exact World.cell?_of_block (hk.at_ b hbl (by simp))
    (repeat first|refine zA ?_|refine zB ?_|refine zC ?_|refine zD ?_|refine zE ?_|refine zg ?_|refine zo rfl rfl (by first|exact trivial|(simp only[AllP];omega)|(simp(discharger:=omega)only[AllP,cA,cB];omega)|(simp only[AllP,cC,cD,cE,cF,cG];omega)) ?_|refine zn ?_|refine zb ?_|refine ze rfl ?_|refine zr ?_|refine zk ?_|refine zT rfl rfl rfl ?_|refine zU rfl rfl rfl ?_|refine zV rfl rfl rfl ?_|refine zf rfl ?_|refine zt rfl ?_)
    refine o_loadc rfl (hcx w2 hns.kp) rfl rfl rfl rfl ?_
    (repeat first|refine zA ?_|refine zB ?_|refine zC ?_|refine zD ?_|refine zE ?_|refine zg ?_|refine zo rfl rfl (by first|exact trivial|(simp only[AllP];omega)|(simp(discharger:=omega)only[AllP,cA,cB];omega)|(simp only[AllP,cC,cD,cE,cF,cG];omega)) ?_|refine zn ?_|refine zb ?_|refine ze rfl ?_|refine zr ?_|refine zk ?_|refine zT rfl rfl rfl ?_|refine zU rfl rfl rfl ?_|refine zV rfl rfl rfl ?_|refine zf rfl ?_|refine zt rfl ?_)
    refine o_call (right_ret x) rfl rfl rfl ?_
    rintro v w3 ⟨rfl, rfl⟩
    cases hb : rightB x with
    | false =>
      (repeat first|refine zA ?_|refine zB ?_|refine zC ?_|refine zD ?_|refine zE ?_|refine zg ?_|refine zo rfl rfl (by first|exact trivial|(simp only[AllP];omega)|(simp(discharger:=omega)only[AllP,cA,cB];omega)|(simp only[AllP,cC,cD,cE,cF,cG];omega)) ?_|refine zn ?_|refine zb ?_|refine ze rfl ?_|refine zr ?_|refine zk ?_|refine zT rfl rfl rfl ?_|refine zU rfl rfl rfl ?_|refine zV rfl rfl rfl ?_|refine zf rfl ?_|refine zt rfl ?_)
      refine ⟨_, rfl, .inr ⟨?_, rfl, hns.kp⟩⟩
      rw [allOk_iff, List.all_eq_false]
      exact ⟨x, List.mem_of_getElem? hx, by rw [hb]; decide⟩
    | true =>
      obtain ⟨k, rfl, hk⟩ := rightB_nat hb
      (repeat first|refine zA ?_|refine zB ?_|refine zC ?_|refine zD ?_|refine zE ?_|refine zg ?_|refine zo rfl rfl (by first|exact trivial|(simp only[AllP];omega)|(simp(discharger:=omega)only[AllP,cA,cB];omega)|(simp only[AllP,cC,cD,cE,cF,cG];omega)) ?_|refine zn ?_|refine zb ?_|refine ze rfl ?_|refine zr ?_|refine zk ?_|refine zT rfl rfl rfl ?_|refine zU rfl rfl rfl ?_|refine zV rfl rfl rfl ?_|refine zf rfl ?_|refine zt rfl ?_)
      have hT3 := hT.kp hns.kp (by simp)
      have hlen := elems_newW_le _ hok
      have hlen2 : (l.take i).length ≤ l.length := by rw [List.length_take]; omega
      have hlts : ∀ y ∈ elems (newW (l.take i) []), y ≤ 1048576 := fun y hy => by
        have h1 := mem_elems.1 hy
        rw [bit_newW _ _ _ hok] at h1
        simp [bit] at h1
        rw [allOk_iff, List.all_eq_true] at hok
        obtain ⟨z, hz, hz2⟩ := rightB_nat (hok _ h1)
        omega
      refine r_mix (fun w' => RefAt w' p (elems (newW (l.take i) [])) ad1 cap1 ∧ Kp [] w3 w') [(0, false), (1, false), (2, false), (3, false), (4, false), (5, false), (6, false), (7, false), (8, false), (9, true), (10, false), (11, false), (12, true)] follows_mixed (by kernel_rfl) (by kernel_rfl) (by kernel_rfl) ⟨hns.at_.sm (Sm.drew w3), (Sm.drew w3).kp []⟩ ?_
      have h2 := hns.at_.sm (Sm.drew w3)
      have hs2 := (Sm.drew w3).kp []
      generalize ({ w3 with drawn := w3.drawn + 1 } : World) = w4 at h2 hs2 ⊢
      (repeat first|refine xo rfl rfl (by first|exact trivial|(simp only[AllP];omega)|(simp(discharger:=omega)only[AllP,cA,cB];omega)|(simp only[AllP,cC,cD,cE,cF,cG];omega)) ?_|refine xn ?_|refine x_know rfl _ _ (some true) rfl rfl rfl ?_|refine x_know rfl _ _ (some false) rfl rfl rfl ?_|refine x_know rfl _ _ none rfl rfl rfl ?_)
      refine x_load rfl rfl (fun w' h' => h'.1.hdr.cell rfl) rfl rfl rfl rfl ?_
      (repeat first|refine xo rfl rfl (by first|exact trivial|(simp only[AllP];omega)|(simp(discharger:=omega)only[AllP,cA,cB];omega)|(simp only[AllP,cC,cD,cE,cF,cG];omega)) ?_|refine xn ?_|refine x_know rfl _ _ (some true) rfl rfl rfl ?_|refine x_know rfl _ _ (some false) rfl rfl rfl ?_|refine x_know rfl _ _ none rfl rfl rfl ?_)
      refine x_load rfl rfl (fun w' h' => hcx w' (hns.kp.trans h'.2)) rfl rfl rfl rfl ?_
      (repeat first|refine xo rfl rfl (by first|exact trivial|(simp only[AllP];omega)|(simp(discharger:=omega)only[AllP,cA,cB];omega)|(simp only[AllP,cC,cD,cE,cF,cG];omega)) ?_|refine xn ?_|refine x_know rfl _ _ (some true) rfl rfl rfl ?_|refine x_know rfl _ _ (some false) rfl rfl rfl ?_|refine x_know rfl _ _ none rfl rfl rfl ?_)
      refine x_act rfl ?_
      refine o_call (with_ret (n := k) h2.own.read (elems_sorted _) (by omega) (by omega) hlts) rfl rfl rfl ?_
      rintro v w5 ⟨ad3, cap3, rfl, hn3⟩
      have h5 := h2.kp hn3.kp (by simp)
      refine o_nil ⟨.inr ⟨h5, hs2.trans hn3.kp⟩, ?_⟩
      (repeat first|refine xo rfl rfl (by first|exact trivial|(simp only[AllP];omega)|(simp(discharger:=omega)only[AllP,cA,cB];omega)|(simp only[AllP,cC,cD,cE,cF,cG];omega)) ?_|refine xn ?_|refine x_know rfl _ _ (some true) rfl rfl rfl ?_|refine x_know rfl _ _ (some false) rfl rfl rfl ?_|refine x_know rfl _ _ none rfl rfl rfl ?_)
      refine x_act rfl ?_
      refine o_store rfl h5.hdr (by show 0 < 1; omega) rfl rfl rfl rfl rfl rfl ?_
      intro w6 hu6
      refine o_nil ⟨.inl (by kernel_rfl), ?_⟩
      (repeat first|refine xo rfl rfl (by first|exact trivial|(simp only[AllP];omega)|(simp(discharger:=omega)only[AllP,cA,cB];omega)|(simp only[AllP,cC,cD,cE,cF,cG];omega)) ?_|refine xn ?_|refine x_know rfl _ _ (some true) rfl rfl rfl ?_|refine x_know rfl _ _ (some false) rfl rfl rfl ?_|refine x_know rfl _ _ none rfl rfl rfl ?_)
      (repeat first|refine zA ?_|refine zB ?_|refine zC ?_|refine zD ?_|refine zE ?_|refine zg ?_|refine zo rfl rfl (by first|exact trivial|(simp only[AllP];omega)|(simp(discharger:=omega)only[AllP,cA,cB];omega)|(simp only[AllP,cC,cD,cE,cF,cG];omega)) ?_|refine zn ?_|refine zb ?_|refine ze rfl ?_|refine zr ?_|refine zk ?_|refine zT rfl rfl rfl ?_|refine zU rfl rfl rfl ?_|refine zV rfl rfl rfl ?_|refine zf rfl ?_|refine zt rfl ?_)
      have hto := h2.lay (hT3.kp hs2 (by simp)) hn3 hu6
      have e1 : elems (newW (l.take (i + 1)) []) = withL (elems (newW (l.take i) [])) k := by
        rw [htk]
        unfold newW
        rw [List.foldl_append]
        exact elems_putW _ k
      refine ⟨(i + 1, ad3, cap3), rfl, ⟨?_, by dsimp only; omega, ?_⟩, by dsimp only; omega⟩
      · dsimp only
        rw [e1]
        exact (NewRef.to ⟨h2, hns.kp.trans hs2, hns.new⟩ hto)
      · dsimp only
        rw [htk, allOk_iff, List.all_append, ← allOk_iff, hok]
        simp [hb]
  · have : i = l.length := by omega
    subst this
    rw [List.take_length] at hns hok
    (repeat first|refine zA ?_|refine zB ?_|refine zC ?_|refine zD ?_|refine zE ?_|refine zg ?_|refine zo rfl rfl (by first|exact trivial|(simp only[AllP];omega)|(simp(discharger:=omega)only[AllP,cA,cB];omega)|(simp only[AllP,cC,cD,cE,cF,cG];omega)) ?_|refine zn ?_|refine zb ?_|refine ze rfl ?_|refine zr ?_|refine zk ?_|refine zT rfl rfl rfl ?_|refine zU rfl rfl rfl ?_|refine zV rfl rfl rfl ?_|refine zf rfl ?_|refine zt rfl ?_)
    exact ⟨_, rfl, .inl ⟨hok, p, ad1, cap1, rfl, hns⟩⟩

theorem refPut_nil (n : Int) : Ret Tryd.prog 80 [.pointer none, I n] w (fun v w' => v = I 1 ∧ w' = w) := by
  refine enter Tryd.call80 Tryd.func80 rfl rfl rfl rfl ?_
  (repeat first|refine zA ?_|refine zB ?_|refine zC ?_|refine zD ?_|refine zE ?_|refine zg ?_|refine zo rfl rfl (by first|exact trivial|(simp only[AllP];omega)|(simp(discharger:=omega)only[AllP,cA,cB];omega)|(simp only[AllP,cC,cD,cE,cF,cG];omega)) ?_|refine zn ?_|refine zb ?_|refine ze rfl ?_|refine zr ?_|refine zk ?_|refine zT rfl rfl rfl ?_|refine zU rfl rfl rfl ?_|refine zV rfl rfl rfl ?_|refine zf rfl ?_|refine zt rfl ?_)
  exact ⟨_, rfl, rfl, rfl⟩
theorem refPut_bad {n : Int} (hb : rightB n = false) : Ret Tryd.prog 80 [ptr p, I n] w (fun v w' => v = I 2 ∧ w' = w) := by
  refine enter Tryd.call80 Tryd.func80 rfl rfl rfl rfl ?_
  (repeat first|refine zA ?_|refine zB ?_|refine zC ?_|refine zD ?_|refine zE ?_|refine zg ?_|refine zo rfl rfl (by first|exact trivial|(simp only[AllP];omega)|(simp(discharger:=omega)only[AllP,cA,cB];omega)|(simp only[AllP,cC,cD,cE,cF,cG];omega)) ?_|refine zn ?_|refine zb ?_|refine ze rfl ?_|refine zr ?_|refine zk ?_|refine zT rfl rfl rfl ?_|refine zU rfl rfl rfl ?_|refine zV rfl rfl rfl ?_|refine zf rfl ?_|refine zt rfl ?_)
  refine o_call (right_ret n) rfl rfl rfl ?_
  rintro v w3 ⟨rfl, rfl⟩
  rw [hb]
  (repeat first|refine zA ?_|refine zB ?_|refine zC ?_|refine zD ?_|refine zE ?_|refine zg ?_|refine zo rfl rfl (by first|exact trivial|(simp only[AllP];omega)|(simp(discharger:=omega)only[AllP,cA,cB];omega)|(simp only[AllP,cC,cD,cE,cF,cG];omega)) ?_|refine zn ?_|refine zb ?_|refine ze rfl ?_|refine zr ?_|refine zk ?_|refine zT rfl rfl rfl ?_|refine zU rfl rfl rfl ?_|refine zV rfl rfl rfl ?_|refine zf rfl ?_|refine zt rfl ?_)
  exact ⟨_, rfl, rfl, rfl⟩
theorem refPut_ret (hT : TabW w) (h : RefAt w p l ad cap) (hs : Ris l) {k : Nat} (hk : k < 1048576) : Ret Tryd.prog 80 [ptr p, I k] w (fun v w' => v = I 0 ∧ ∃ ad' cap', RefTo w p ad w' (withL l k) ad' cap') := by
  have hlen := hs.len
  refine enter Tryd.call80 Tryd.func80 rfl rfl rfl rfl ?_
  (repeat first|refine zA ?_|refine zB ?_|refine zC ?_|refine zD ?_|refine zE ?_|refine zg ?_|refine zo rfl rfl (by first|exact trivial|(simp only[AllP];omega)|(simp(discharger:=omega)only[AllP,cA,cB];omega)|(simp only[AllP,cC,cD,cE,cF,cG];omega)) ?_|refine zn ?_|refine zb ?_|refine ze rfl ?_|refine zr ?_|refine zk ?_|refine zT rfl rfl rfl ?_|refine zU rfl rfl rfl ?_|refine zV rfl rfl rfl ?_|refine zf rfl ?_|refine zt rfl ?_)
  refine o_call (right_ret (k : Int)) rfl rfl rfl ?_
  rintro v w3 ⟨rfl, rfl⟩
  rw [rightB_of hk]
  (repeat first|refine zA ?_|refine zB ?_|refine zC ?_|refine zD ?_|refine zE ?_|refine zg ?_|refine zo rfl rfl (by first|exact trivial|(simp only[AllP];omega)|(simp(discharger:=omega)only[AllP,cA,cB];omega)|(simp only[AllP,cC,cD,cE,cF,cG];omega)) ?_|refine zn ?_|refine zb ?_|refine ze rfl ?_|refine zr ?_|refine zk ?_|refine zT rfl rfl rfl ?_|refine zU rfl rfl rfl ?_|refine zV rfl rfl rfl ?_|refine zf rfl ?_|refine zt rfl ?_)
  refine o_load rfl h.hdr rfl rfl rfl rfl rfl ?_
  (repeat first|refine zA ?_|refine zB ?_|refine zC ?_|refine zD ?_|refine zE ?_|refine zg ?_|refine zo rfl rfl (by first|exact trivial|(simp only[AllP];omega)|(simp(discharger:=omega)only[AllP,cA,cB];omega)|(simp only[AllP,cC,cD,cE,cF,cG];omega)) ?_|refine zn ?_|refine zb ?_|refine ze rfl ?_|refine zr ?_|refine zk ?_|refine zT rfl rfl rfl ?_|refine zU rfl rfl rfl ?_|refine zV rfl rfl rfl ?_|refine zf rfl ?_|refine zt rfl ?_)
  refine o_call (with_ret (n := k) h.own.read hs.sorted (by omega) (by omega) (fun x hx => by have := hs.lt x hx; omega)) rfl rfl rfl ?_
  rintro v w5 ⟨ad3, cap3, rfl, hn3⟩
  have h5 := h.kp hn3.kp (by simp)
  (repeat first|refine zA ?_|refine zB ?_|refine zC ?_|refine zD ?_|refine zE ?_|refine zg ?_|refine zo rfl rfl (by first|exact trivial|(simp only[AllP];omega)|(simp(discharger:=omega)only[AllP,cA,cB];omega)|(simp only[AllP,cC,cD,cE,cF,cG];omega)) ?_|refine zn ?_|refine zb ?_|refine ze rfl ?_|refine zr ?_|refine zk ?_|refine zT rfl rfl rfl ?_|refine zU rfl rfl rfl ?_|refine zV rfl rfl rfl ?_|refine zf rfl ?_|refine zt rfl ?_)
  refine o_store rfl h5.hdr (by show 0 < 1; omega) rfl rfl rfl rfl rfl rfl ?_
  intro w6 hu6
  (repeat first|refine zA ?_|refine zB ?_|refine zC ?_|refine zD ?_|refine zE ?_|refine zg ?_|refine zo rfl rfl (by first|exact trivial|(simp only[AllP];omega)|(simp(discharger:=omega)only[AllP,cA,cB];omega)|(simp only[AllP,cC,cD,cE,cF,cG];omega)) ?_|refine zn ?_|refine zb ?_|refine ze rfl ?_|refine zr ?_|refine zk ?_|refine zT rfl rfl rfl ?_|refine zU rfl rfl rfl ?_|refine zV rfl rfl rfl ?_|refine zf rfl ?_|refine zt rfl ?_)
  exact ⟨_, rfl, rfl, ad3, cap3, h.lay hT hn3 hu6⟩

theorem without_ret {ad : Option Addr} {l : List Nat} {c n : Nat} (h : ReadS w ad (l.map encI)) (hl : l.length ≤ 16777216) :
    Ret Tryd.prog 88 [.slice ad l.length c, I n] w (fun v w' => ∃ ad' cap', v = .slice ad' (l.filter fun x => decide (x ≠ n)).length cap' ∧ NewS w 3 w' ad' (l.filter fun x => decide (x ≠ n)).length cap' ((l.filter fun x => decide (x ≠ n)).map encI)) := by
  refine enter Tryd.call88 Tryd.func88 rfl rfl rfl rfl ?_
  (repeat first|refine zA ?_|refine zB ?_|refine zC ?_|refine zD ?_|refine zE ?_|refine zg ?_|refine zo rfl rfl (by first|exact trivial|(simp only[AllP];omega)|(simp(discharger:=omega)only[AllP,cA,cB];omega)|(simp only[AllP,cC,cD,cE,cF,cG];omega)) ?_|refine zn ?_|refine zb ?_|refine ze rfl ?_|refine zr ?_|refine zk ?_|refine zT rfl rfl rfl ?_|refine zU rfl rfl rfl ?_|refine zV rfl rfl rfl ?_|refine zf rfl ?_|refine zt rfl ?_)
  refine r_loop (α := Nat × Option Addr × Nat) [0, 1, 5, 6] (fun g => [.slice ad l.length c, I n, .slice g.2.1 ((l.take g.1).filter fun x => decide (x ≠ n)).length g.2.2, I g.1])
    (fun g w1 => NewS w 3 w1 g.2.1 ((l.take g.1).filter fun x => decide (x ≠ n)).length g.2.2 (((l.take g.1).filter fun x => decide (x ≠ n)).map encI) ∧ g.1 ≤ l.length) (fun g => l.length - g.1) (0, none, 0) rfl ⟨⟨ownS_nil _ _ _, Kp.refl _ _, by simp [blkOf]⟩, by omega⟩ ?_
  rintro ⟨i, ad1, cap1⟩ e w1 ⟨hN, hi⟩
  dsimp only at hN hi ⊢
  obtain ⟨out, hout⟩ : ∃ out, out = (l.take i).filter fun x => decide (x ≠ n) := ⟨_, rfl⟩
  have hol : out.length ≤ l.length := by
    rw [hout]
    refine Nat.le_trans (List.length_filter_le _ _) ?_
    rw [List.length_take]; omega
  (repeat first|refine zA ?_|refine zB ?_|refine zC ?_|refine zD ?_|refine zE ?_|refine zg ?_|refine zo rfl rfl (by first|exact trivial|(simp only[AllP];omega)|(simp(discharger:=omega)only[AllP,cA,cB];omega)|(simp only[AllP,cC,cD,cE,cF,cG];omega)) ?_|refine zn ?_|refine zb ?_|refine ze rfl ?_|refine zr ?_|refine zk ?_|refine zT rfl rfl rfl ?_|refine zU rfl rfl rfl ?_|refine zV rfl rfl rfl ?_|refine zf rfl ?_|refine zt rfl ?_)
  refine r_if rfl (fun hc => ?_) (fun hc => ?_)
  · have hlt : i < l.length := by omega
    obtain ⟨x, hx⟩ : ∃ x, l[i]? = some x := ⟨_, List.getElem?_eq_getElem hlt⟩
    have htk : l.take (i + 1) = l.take i ++ [x] := by rw [List.take_add_one, hx]; rfl
    obtain ⟨b, o, rfl, hbl, hcell⟩ := h.at_ (by simp; omega)
    have hcx : ∀ w', Kp [] w w' → w'.cell? ⟨b, o + i, none⟩ = some (I (x : Int)) := fun w' hk => by
      rw [← hcell i _ (by rw [List.getElem?_map, hx]; rfl)]
      exact World.cell?_of_block (hk.at_ b hbl (by simp))
    have e2 : (l.take (i + 1)).filter (fun x => decide (x ≠ n)) = out ++ if x ≠ n then [x] else [] := by
      rw [htk, List.filter_append, ← hout]
      simp only [List.filter_cons, List.filter_nil, decide_eq_true_eq]
    rw [← hout] at hN ⊢
    (repeat first|refine zA ?_|refine zB ?_|refine zC ?_|refine zD ?_|refine zE ?_|refine zg ?_|refine zo rfl rfl (by first|exact trivial|(simp only[AllP];omega)|(simp(discharger:=omega)only[AllP,cA,cB];omega)|(simp only[AllP,cC,cD,cE,cF,cG];omega)) ?_|refine zn ?_|refine zb ?_|refine ze rfl ?_|refine zr ?_|refine zk ?_|refine zT rfl rfl rfl ?_|refine zU rfl rfl rfl ?_|refine zV rfl rfl rfl ?_|refine zf rfl ?_|refine zt rfl ?_)
    refine o_loadc rfl (hcx w1 hN.kp) rfl rfl rfl rfl ?_
    (repeat first|refine zA ?_|refine zB ?_|refine zC ?_|refine zD ?_|refine zE ?_|refine zg ?_|refine zo rfl rfl (by first|exact trivial|(simp only[AllP];omega)|(simp(discharger:=omega)only[AllP,cA,cB];omega)|(simp only[AllP,cC,cD,cE,cF,cG];omega)) ?_|refine zn ?_|refine zb ?_|refine ze rfl ?_|refine zr ?_|refine zk ?_|refine zT rfl rfl rfl ?_|refine zU rfl rfl rfl ?_|refine zV rfl rfl rfl ?_|refine zf rfl ?_|refine zt rfl ?_)
    by_cases hxn : x = n
    · refine r_no rfl (by simp [hxn]) ?_
      (repeat first|refine zA ?_|refine zB ?_|refine zC ?_|refine zD ?_|refine zE ?_|refine zg ?_|refine zo rfl rfl (by first|exact trivial|(simp only[AllP];omega)|(simp(discharger:=omega)only[AllP,cA,cB];omega)|(simp only[AllP,cC,cD,cE,cF,cG];omega)) ?_|refine zn ?_|refine zb ?_|refine ze rfl ?_|refine zr ?_|refine zk ?_|refine zT rfl rfl rfl ?_|refine zU rfl rfl rfl ?_|refine zV rfl rfl rfl ?_|refine zf rfl ?_|refine zt rfl ?_)
      rw [if_neg (by simp [hxn]), List.append_nil] at e2
      refine ⟨(i + 1, ad1, cap1), ?_, ⟨?_, by dsimp only; omega⟩, by dsimp only; omega⟩
      · dsimp only; rw [e2]; rfl
      · dsimp only; rw [e2]; exact hN
    · refine r_yes rfl (by simp; omega) ?_
      (repeat first|refine zA ?_|refine zB ?_|refine zC ?_|refine zD ?_|refine zE ?_|refine zg ?_|refine zo rfl rfl (by first|exact trivial|(simp only[AllP];omega)|(simp(discharger:=omega)only[AllP,cA,cB];omega)|(simp only[AllP,cC,cD,cE,cF,cG];omega)) ?_|refine zn ?_|refine zb ?_|refine ze rfl ?_|refine zr ?_|refine zk ?_|refine zT rfl rfl rfl ?_|refine zU rfl rfl rfl ?_|refine zV rfl rfl rfl ?_|refine zf rfl ?_|refine zt rfl ?_)
      refine o_loadc rfl (hcx w1 hN.kp) rfl rfl rfl rfl ?_
      (repeat first|refine zA ?_|refine zB ?_|refine zC ?_|refine zD ?_|refine zE ?_|refine zg ?_|refine zo rfl rfl (by first|exact trivial|(simp only[AllP];omega)|(simp(discharger:=omega)only[AllP,cA,cB];omega)|(simp only[AllP,cC,cD,cE,cF,cG];omega)) ?_|refine zn ?_|refine zb ?_|refine ze rfl ?_|refine zr ?_|refine zk ?_|refine zT rfl rfl rfl ?_|refine zU rfl rfl rfl ?_|refine zV rfl rfl rfl ?_|refine zf rfl ?_|refine zt rfl ?_)
      refine o_buildSlice [I (x : Int)] rfl (by simp [Value.oneCell']) rfl (by decide) (by decide) rfl rfl rfl rfl rfl ?_
      intro b3 w3 hb3 hu3
      have k3 : Kp [] w1 w3 := hu3.kp [] (.inr (by omega))
      refine o_append1 rfl rfl (hN.own.kp k3 (by simp)) hu3.blk rfl rfl rfl rfl (by simp only [maxLen]; omega) (by omega) rfl rfl ?_
      intro ad4 cap4 w4 ho4 k4 hnew4
      (repeat first|refine zA ?_|refine zB ?_|refine zC ?_|refine zD ?_|refine zE ?_|refine zg ?_|refine zo rfl rfl (by first|exact trivial|(simp only[AllP];omega)|(simp(discharger:=omega)only[AllP,cA,cB];omega)|(simp only[AllP,cC,cD,cE,cF,cG];omega)) ?_|refine zn ?_|refine zb ?_|refine ze rfl ?_|refine zr ?_|refine zk ?_|refine zT rfl rfl rfl ?_|refine zU rfl rfl rfl ?_|refine zV rfl rfl rfl ?_|refine zf rfl ?_|refine zt rfl ?_)
      have hp := hN.push k3 ho4 k4 hnew4
      rw [if_pos hxn] at e2
      refine ⟨(i + 1, ad4, cap4), ?_, ⟨?_, by dsimp only; omega⟩, by dsimp only; omega⟩
      · dsimp only; rw [e2, List.length_append]; rfl
      · dsimp only; rw [e2]; simpa [encI] using hp
  · have : i = l.length := by omega
    subst this
    rw [List.take_length] at hN ⊢
    (repeat first|refine zA ?_|refine zB ?_|refine zC ?_|refine zD ?_|refine zE ?_|refine zg ?_|refine zo rfl rfl (by first|exact trivial|(simp only[AllP];omega)|(simp(discharger:=omega)only[AllP,cA,cB];omega)|(simp only[AllP,cC,cD,cE,cF,cG];omega)) ?_|refine zn ?_|refine zb ?_|refine ze rfl ?_|refine zr ?_|refine zk ?_|refine zT rfl rfl rfl ?_|refine zU rfl rfl rfl ?_|refine zV rfl rfl rfl ?_|refine zf rfl ?_|refine zt rfl ?_)
    exact ⟨_, rfl, ad1, cap1, rfl, hN⟩

theorem refDel_nil (n : Int) : Ret Tryd.prog 81 [.pointer none, I n] w (fun v w' => v = I 1 ∧ w' = w) := by
  refine enter Tryd.call81 Tryd.func81 rfl rfl rfl rfl ?_
  (repeat first|refine zA ?_|refine zB ?_|refine zC ?_|refine zD ?_|refine zE ?_|refine zg ?_|refine zo rfl rfl (by first|exact trivial|(simp only[AllP];omega)|(simp(discharger:=omega)only[AllP,cA,cB];omega)|(simp only[AllP,cC,cD,cE,cF,cG];omega)) ?_|refine zn ?_|refine zb ?_|refine ze rfl ?_|refine zr ?_|refine zk ?_|refine zT rfl rfl rfl ?_|refine zU rfl rfl rfl ?_|refine zV rfl rfl rfl ?_|refine zf rfl ?_|refine zt rfl ?_)
  exact ⟨_, rfl, rfl, rfl⟩
theorem refDel_bad {n : Int} (hb : rightB n = false) : Ret Tryd.prog 81 [ptr p, I n] w (fun v w' => v = I 2 ∧ w' = w) := by
  refine enter Tryd.call81 Tryd.func81 rfl rfl rfl rfl ?_
  (repeat first|refine zA ?_|refine zB ?_|refine zC ?_|refine zD ?_|refine zE ?_|refine zg ?_|refine zo rfl rfl (by first|exact trivial|(simp only[AllP];omega)|(simp(discharger:=omega)only[AllP,cA,cB];omega)|(simp only[AllP,cC,cD,cE,cF,cG];omega)) ?_|refine zn ?_|refine zb ?_|refine ze rfl ?_|refine zr ?_|refine zk ?_|refine zT rfl rfl rfl ?_|refine zU rfl rfl rfl ?_|refine zV rfl rfl rfl ?_|refine zf rfl ?_|refine zt rfl ?_)
  refine o_call (right_ret n) rfl rfl rfl ?_
  rintro v w3 ⟨rfl, rfl⟩
  rw [hb]
  (repeat first|refine zA ?_|refine zB ?_|refine zC ?_|refine zD ?_|refine zE ?_|refine zg ?_|refine zo rfl rfl (by first|exact trivial|(simp only[AllP];omega)|(simp(discharger:=omega)only[AllP,cA,cB];omega)|(simp only[AllP,cC,cD,cE,cF,cG];omega)) ?_|refine zn ?_|refine zb ?_|refine ze rfl ?_|refine zr ?_|refine zk ?_|refine zT rfl rfl rfl ?_|refine zU rfl rfl rfl ?_|refine zV rfl rfl rfl ?_|refine zf rfl ?_|refine zt rfl ?_)
  exact ⟨_, rfl, rfl, rfl⟩
theorem refDel_ret (hT : TabW w) (h : RefAt w p l ad cap) (hl : l.length ≤ 16777216) {k : Nat} (hk : k < 1048576) : Ret Tryd.prog 81 [ptr p, I k] w (fun v w' => v = I 0 ∧ ∃ ad' cap', RefTo w p ad w' (l.filter fun x => decide (x ≠ k)) ad' cap') := by
  refine enter Tryd.call81 Tryd.func81 rfl rfl rfl rfl ?_
  (repeat first|refine zA ?_|refine zB ?_|refine zC ?_|refine zD ?_|refine zE ?_|refine zg ?_|refine zo rfl rfl (by first|exact trivial|(simp only[AllP];omega)|(simp(discharger:=omega)only[AllP,cA,cB];omega)|(simp only[AllP,cC,cD,cE,cF,cG];omega)) ?_|refine zn ?_|refine zb ?_|refine ze rfl ?_|refine zr ?_|refine zk ?_|refine zT rfl rfl rfl ?_|refine zU rfl rfl rfl ?_|refine zV rfl rfl rfl ?_|refine zf rfl ?_|refine zt rfl ?_)
  refine o_call (right_ret (k : Int)) rfl rfl rfl ?_
  rintro v w3 ⟨rfl, rfl⟩
  rw [rightB_of hk]
  (repeat first|refine zA ?_|refine zB ?_|refine zC ?_|refine zD ?_|refine zE ?_|refine zg ?_|refine zo rfl rfl (by first|exact trivial|(simp only[AllP];omega)|(simp(discharger:=omega)only[AllP,cA,cB];omega)|(simp only[AllP,cC,cD,cE,cF,cG];omega)) ?_|refine zn ?_|refine zb ?_|refine ze rfl ?_|refine zr ?_|refine zk ?_|refine zT rfl rfl rfl ?_|refine zU rfl rfl rfl ?_|refine zV rfl rfl rfl ?_|refine zf rfl ?_|refine zt rfl ?_)
  refine o_load rfl h.hdr rfl rfl rfl rfl rfl ?_
  (repeat first|refine zA ?_|refine zB ?_|refine zC ?_|refine zD ?_|refine zE ?_|refine zg ?_|refine zo rfl rfl (by first|exact trivial|(simp only[AllP];omega)|(simp(discharger:=omega)only[AllP,cA,cB];omega)|(simp only[AllP,cC,cD,cE,cF,cG];omega)) ?_|refine zn ?_|refine zb ?_|refine ze rfl ?_|refine zr ?_|refine zk ?_|refine zT rfl rfl rfl ?_|refine zU rfl rfl rfl ?_|refine zV rfl rfl rfl ?_|refine zf rfl ?_|refine zt rfl ?_)
  refine o_call (without_ret (n := k) h.own.read hl) rfl rfl rfl ?_
  rintro v w5 ⟨ad3, cap3, rfl, hn3⟩
  have h5 := h.kp hn3.kp (by simp)
  (repeat first|refine zA ?_|refine zB ?_|refine zC ?_|refine zD ?_|refine zE ?_|refine zg ?_|refine zo rfl rfl (by first|exact trivial|(simp only[AllP];omega)|(simp(discharger:=omega)only[AllP,cA,cB];omega)|(simp only[AllP,cC,cD,cE,cF,cG];omega)) ?_|refine zn ?_|refine zb ?_|refine ze rfl ?_|refine zr ?_|refine zk ?_|refine zT rfl rfl rfl ?_|refine zU rfl rfl rfl ?_|refine zV rfl rfl rfl ?_|refine zf rfl ?_|refine zt rfl ?_)
  refine o_store rfl h5.hdr (by show 0 < 1; omega) rfl rfl rfl rfl rfl rfl ?_
  intro w6 hu6
  (repeat first|refine zA ?_|refine zB ?_|refine zC ?_|refine zD ?_|refine zE ?_|refine zg ?_|refine zo rfl rfl (by first|exact trivial|(simp only[AllP];omega)|(simp(discharger:=omega)only[AllP,cA,cB];omega)|(simp only[AllP,cC,cD,cE,cF,cG];omega)) ?_|refine zn ?_|refine zb ?_|refine ze rfl ?_|refine zr ?_|refine zk ?_|refine zT rfl rfl rfl ?_|refine zU rfl rfl rfl ?_|refine zV rfl rfl rfl ?_|refine zf rfl ?_|refine zt rfl ?_)
  exact ⟨_, rfl, rfl, ad3, cap3, h.lay hT hn3 hu6⟩

theorem refHas_nil (n : Int) : Ret Tryd.prog 83 [.pointer none, I n] w (fun v w' => v = .bool false ∧ w' = w) := by
  refine enter Tryd.call83 Tryd.func83 rfl rfl rfl rfl ?_
  (repeat first|refine zA ?_|refine zB ?_|refine zC ?_|refine zD ?_|refine zE ?_|refine zg ?_|refine zo rfl rfl (by first|exact trivial|(simp only[AllP];omega)|(simp(discharger:=omega)only[AllP,cA,cB];omega)|(simp only[AllP,cC,cD,cE,cF,cG];omega)) ?_|refine zn ?_|refine zb ?_|refine ze rfl ?_|refine zr ?_|refine zk ?_|refine zT rfl rfl rfl ?_|refine zU rfl rfl rfl ?_|refine zV rfl rfl rfl ?_|refine zf rfl ?_|refine zt rfl ?_)
  exact ⟨_, rfl, rfl, rfl⟩
theorem refHas_ret (h : RefAt w p l ad cap) (hl : l.length ≤ 16777216) (n : Int) : Ret Tryd.prog 83 [ptr p, I n] w (fun v w' => v = .bool (decide (0 ≤ n ∧ n.toNat ∈ l)) ∧ w' = w) := by
  refine enter Tryd.call83 Tryd.func83 rfl rfl rfl rfl ?_
  (repeat first|refine zA ?_|refine zB ?_|refine zC ?_|refine zD ?_|refine zE ?_|refine zg ?_|refine zo rfl rfl (by first|exact trivial|(simp only[AllP];omega)|(simp(discharger:=omega)only[AllP,cA,cB];omega)|(simp only[AllP,cC,cD,cE,cF,cG];omega)) ?_|refine zn ?_|refine zb ?_|refine ze rfl ?_|refine zr ?_|refine zk ?_|refine zT rfl rfl rfl ?_|refine zU rfl rfl rfl ?_|refine zV rfl rfl rfl ?_|refine zf rfl ?_|refine zt rfl ?_)
  refine o_load rfl h.hdr rfl rfl rfl rfl rfl ?_
  (repeat first|refine zA ?_|refine zB ?_|refine zC ?_|refine zD ?_|refine zE ?_|refine zg ?_|refine zo rfl rfl (by first|exact trivial|(simp only[AllP];omega)|(simp(discharger:=omega)only[AllP,cA,cB];omega)|(simp only[AllP,cC,cD,cE,cF,cG];omega)) ?_|refine zn ?_|refine zb ?_|refine ze rfl ?_|refine zr ?_|refine zk ?_|refine zT rfl rfl rfl ?_|refine zU rfl rfl rfl ?_|refine zV rfl rfl rfl ?_|refine zf rfl ?_|refine zt rfl ?_)
  refine o_call (in_ret h.own.read hl) rfl rfl rfl ?_
  rintro v w3 ⟨rfl, rfl⟩
  (repeat first|refine zA ?_|refine zB ?_|refine zC ?_|refine zD ?_|refine zE ?_|refine zg ?_|refine zo rfl rfl (by first|exact trivial|(simp only[AllP];omega)|(simp(discharger:=omega)only[AllP,cA,cB];omega)|(simp only[AllP,cC,cD,cE,cF,cG];omega)) ?_|refine zn ?_|refine zb ?_|refine ze rfl ?_|refine zr ?_|refine zk ?_|refine zT rfl rfl rfl ?_|refine zU rfl rfl rfl ?_|refine zV rfl rfl rfl ?_|refine zf rfl ?_|refine zt rfl ?_)
  exact ⟨_, rfl, rfl, rfl⟩
theorem refLen_nil : Ret Tryd.prog 56 [.pointer none] w (fun v w' => v = I 0 ∧ w' = w) := by
  refine enter Tryd.call56 Tryd.func56 rfl rfl rfl rfl ?_
  (repeat first|refine zA ?_|refine zB ?_|refine zC ?_|refine zD ?_|refine zE ?_|refine zg ?_|refine zo rfl rfl (by first|exact trivial|(simp only[AllP];omega)|(simp(discharger:=omega)only[AllP,cA,cB];omega)|(simp only[AllP,cC,cD,cE,cF,cG];omega)) ?_|refine zn ?_|refine zb ?_|refine ze rfl ?_|refine zr ?_|refine zk ?_|refine zT rfl rfl rfl ?_|refine zU rfl rfl rfl ?_|refine zV rfl rfl rfl ?_|refine zf rfl ?_|refine zt rfl ?_)
  exact ⟨_, rfl, rfl, rfl⟩
theorem refLen_ret (h : RefAt w p l ad cap) : Ret Tryd.prog 56 [ptr p] w (fun v w' => v = I l.length ∧ w' = w) := by
  refine enter Tryd.call56 Tryd.func56 rfl rfl rfl rfl ?_
  (repeat first|refine zA ?_|refine zB ?_|refine zC ?_|refine zD ?_|refine zE ?_|refine zg ?_|refine zo rfl rfl (by first|exact trivial|(simp only[AllP];omega)|(simp(discharger:=omega)only[AllP,cA,cB];omega)|(simp only[AllP,cC,cD,cE,cF,cG];omega)) ?_|refine zn ?_|refine zb ?_|refine ze rfl ?_|refine zr ?_|refine zk ?_|refine zT rfl rfl rfl ?_|refine zU rfl rfl rfl ?_|refine zV rfl rfl rfl ?_|refine zf rfl ?_|refine zt rfl ?_)
  refine o_load rfl h.hdr rfl rfl rfl rfl rfl ?_
  (repeat first|refine zA ?_|refine zB ?_|refine zC ?_|refine zD ?_|refine zE ?_|refine zg ?_|refine zo rfl rfl (by first|exact trivial|(simp only[AllP];omega)|(simp(discharger:=omega)only[AllP,cA,cB];omega)|(simp only[AllP,cC,cD,cE,cF,cG];omega)) ?_|refine zn ?_|refine zb ?_|refine ze rfl ?_|refine zr ?_|refine zk ?_|refine zT rfl rfl rfl ?_|refine zU rfl rfl rfl ?_|refine zV rfl rfl rfl ?_|refine zf rfl ?_|refine zt rfl ?_)
  exact ⟨_, rfl, rfl, rfl⟩
/-- the first that is not below n -/
def nextL (l : List Nat) (n : Int) : Value := match l.find? (fun (x : Nat) => decide (n ≤ (x : Int))) with
  | some x => .tuple #[I x, .bool true]
  | none => .tuple #[I 0, .bool false]
theorem refNext_nil (n : Int) : Ret Tryd.prog 82 [.pointer none, I n] w (fun v w' => v = .tuple #[I 0, .bool false] ∧ w' = w) := by
  refine enter Tryd.call82 Tryd.func82 rfl rfl rfl rfl ?_
  (repeat first|refine zA ?_|refine zB ?_|refine zC ?_|refine zD ?_|refine zE ?_|refine zg ?_|refine zo rfl rfl (by first|exact trivial|(simp only[AllP];omega)|(simp(discharger:=omega)only[AllP,cA,cB];omega)|(simp only[AllP,cC,cD,cE,cF,cG];omega)) ?_|refine zn ?_|refine zb ?_|refine ze rfl ?_|refine zr ?_|refine zk ?_|refine zT rfl rfl rfl ?_|refine zU rfl rfl rfl ?_|refine zV rfl rfl rfl ?_|refine zf rfl ?_|refine zt rfl ?_)
  exact ⟨_, rfl, rfl, rfl⟩
theorem refNext_ret (h : RefAt w p l ad cap) (hl : l.length ≤ 16777216) (n : Int) : Ret Tryd.prog 82 [ptr p, I n] w (fun v w' => v = nextL l n ∧ w' = w) := by
  refine enter Tryd.call82 Tryd.func82 rfl rfl rfl rfl ?_
  (repeat first|refine zA ?_|refine zB ?_|refine zC ?_|refine zD ?_|refine zE ?_|refine zg ?_|refine zo rfl rfl (by first|exact trivial|(simp only[AllP];omega)|(simp(discharger:=omega)only[AllP,cA,cB];omega)|(simp only[AllP,cC,cD,cE,cF,cG];omega)) ?_|refine zn ?_|refine zb ?_|refine ze rfl ?_|refine zr ?_|refine zk ?_|refine zT rfl rfl rfl ?_|refine zU rfl rfl rfl ?_|refine zV rfl rfl rfl ?_|refine zf rfl ?_|refine zt rfl ?_)
  refine r_loop (α := Nat) [0, 1, 6] (fun i => [ptr p, I n, I i]) (fun i w1 => w = w1 ∧ i ≤ l.length ∧ ∀ x ∈ l.take i, (x : Int) < n) (fun i => l.length - i) 0 rfl ⟨rfl, by omega, by simp⟩ ?_
  rintro i e w1 ⟨rfl, hi, hno⟩
  (repeat first|refine zA ?_|refine zB ?_|refine zC ?_|refine zD ?_|refine zE ?_|refine zg ?_|refine zo rfl rfl (by first|exact trivial|(simp only[AllP];omega)|(simp(discharger:=omega)only[AllP,cA,cB];omega)|(simp only[AllP,cC,cD,cE,cF,cG];omega)) ?_|refine zn ?_|refine zb ?_|refine ze rfl ?_|refine zr ?_|refine zk ?_|refine zT rfl rfl rfl ?_|refine zU rfl rfl rfl ?_|refine zV rfl rfl rfl ?_|refine zf rfl ?_|refine zt rfl ?_)
  refine o_load rfl h.hdr rfl rfl rfl rfl rfl ?_
  (repeat first|refine zA ?_|refine zB ?_|refine zC ?_|refine zD ?_|refine zE ?_|refine zg ?_|refine zo rfl rfl (by first|exact trivial|(simp only[AllP];omega)|(simp(discharger:=omega)only[AllP,cA,cB];omega)|(simp only[AllP,cC,cD,cE,cF,cG];omega)) ?_|refine zn ?_|refine zb ?_|refine ze rfl ?_|refine zr ?_|refine zk ?_|refine zT rfl rfl rfl ?_|refine zU rfl rfl rfl ?_|refine zV rfl rfl rfl ?_|refine zf rfl ?_|refine zt rfl ?_)
  refine r_if rfl (fun hc => ?_) (fun hc => ?_)
  · have hlt : i < l.length := by omega
    obtain ⟨x, hx⟩ : ∃ x, l[i]? = some x := ⟨_, List.getElem?_eq_getElem hlt⟩
    have htk : l.take (i + 1) = l.take i ++ [x] := by rw [List.take_add_one, hx]; rfl
    obtain ⟨b, o, hae, hbl, hcell⟩ := h.own.read.at_ (by simp; omega)
    have hh := h.hdr
    rw [hae] at hh ⊢
    (repeat first|refine zA ?_|refine zB ?_|refine zC ?_|refine zD ?_|refine zE ?_|refine zg ?_|refine zo rfl rfl (by first|exact trivial|(simp only[AllP];omega)|(simp(discharger:=omega)only[AllP,cA,cB];omega)|(simp only[AllP,cC,cD,cE,cF,cG];omega)) ?_|refine zn ?_|refine zb ?_|refine ze rfl ?_|refine zr ?_|refine zk ?_|refine zT rfl rfl rfl ?_|refine zU rfl rfl rfl ?_|refine zV rfl rfl rfl ?_|refine zf rfl ?_|refine zt rfl ?_)
    refine o_load rfl hh rfl rfl rfl rfl rfl ?_
    (repeat first|refine zA ?_|refine zB ?_|refine zC ?_|refine zD ?_|refine zE ?_|refine zg ?_|refine zo rfl rfl (by first|exact trivial|(simp only[AllP];omega)|(simp(discharger:=omega)only[AllP,cA,cB];omega)|(simp only[AllP,cC,cD,cE,cF,cG];omega)) ?_|refine zn ?_|refine zb ?_|refine ze rfl ?_|refine zr ?_|refine zk ?_|refine zT rfl rfl rfl ?_|refine zU rfl rfl rfl ?_|refine zV rfl rfl rfl ?_|refine zf rfl ?_|refine zt rfl ?_)
    refine o_loadc (v := I (x : Int)) rfl (hcell i _ (by rw [List.getElem?_map, hx]; rfl)) rfl rfl rfl rfl ?_
    (repeat first|refine zA ?_|refine zB ?_|refine zC ?_|refine zD ?_|refine zE ?_|refine zg ?_|refine zo rfl rfl (by first|exact trivial|(simp only[AllP];omega)|(simp(discharger:=omega)only[AllP,cA,cB];omega)|(simp only[AllP,cC,cD,cE,cF,cG];omega)) ?_|refine zn ?_|refine zb ?_|refine ze rfl ?_|refine zr ?_|refine zk ?_|refine zT rfl rfl rfl ?_|refine zU rfl rfl rfl ?_|refine zV rfl rfl rfl ?_|refine zf rfl ?_|refine zt rfl ?_)
    refine r_if (p := n ≤ (x : Int)) rfl (fun he => ?_) (fun he => ?_)
    · (repeat first|refine zA ?_|refine zB ?_|refine zC ?_|refine zD ?_|refine zE ?_|refine zg ?_|refine zo rfl rfl (by first|exact trivial|(simp only[AllP];omega)|(simp(discharger:=omega)only[AllP,cA,cB];omega)|(simp only[AllP,cC,cD,cE,cF,cG];omega)) ?_|refine zn ?_|refine zb ?_|refine ze rfl ?_|refine zr ?_|refine zk ?_|refine zT rfl rfl rfl ?_|refine zU rfl rfl rfl ?_|refine zV rfl rfl rfl ?_|refine zf rfl ?_|refine zt rfl ?_)
      refine o_load rfl hh rfl rfl rfl rfl rfl ?_
      (repeat first|refine zA ?_|refine zB ?_|refine zC ?_|refine zD ?_|refine zE ?_|refine zg ?_|refine zo rfl rfl (by first|exact trivial|(simp only[AllP];omega)|(simp(discharger:=omega)only[AllP,cA,cB];omega)|(simp only[AllP,cC,cD,cE,cF,cG];omega)) ?_|refine zn ?_|refine zb ?_|refine ze rfl ?_|refine zr ?_|refine zk ?_|refine zT rfl rfl rfl ?_|refine zU rfl rfl rfl ?_|refine zV rfl rfl rfl ?_|refine zf rfl ?_|refine zt rfl ?_)
      refine o_loadc (v := I (x : Int)) rfl (hcell i _ (by rw [List.getElem?_map, hx]; rfl)) rfl rfl rfl rfl ?_
      (repeat first|refine zA ?_|refine zB ?_|refine zC ?_|refine zD ?_|refine zE ?_|refine zg ?_|refine zo rfl rfl (by first|exact trivial|(simp only[AllP];omega)|(simp(discharger:=omega)only[AllP,cA,cB];omega)|(simp only[AllP,cC,cD,cE,cF,cG];omega)) ?_|refine zn ?_|refine zb ?_|refine ze rfl ?_|refine zr ?_|refine zk ?_|refine zT rfl rfl rfl ?_|refine zU rfl rfl rfl ?_|refine zV rfl rfl rfl ?_|refine zf rfl ?_|refine zt rfl ?_)
      refine ⟨_, rfl, ?_, rfl⟩
      have : l.find? (fun (x : Nat) => decide (n ≤ (x : Int))) = some x := by
        have hd : l.drop i = x :: l.drop (i + 1) := by
          rw [List.drop_eq_getElem_cons hlt]
          rw [List.getElem?_eq_getElem hlt] at hx
          cases hx; rfl
        have h1 : (l.take i).find? (fun (x : Nat) => decide (n ≤ (x : Int))) = none := List.find?_eq_none.2 fun y hy => by have := hno y hy; simp; omega
        have e0 : l = l.take i ++ x :: l.drop (i + 1) := by rw [← hd, List.take_append_drop]
        rw [e0, List.find?_append, h1]
        simp [he]
      unfold nextL; rw [this]
    · (repeat first|refine zA ?_|refine zB ?_|refine zC ?_|refine zD ?_|refine zE ?_|refine zg ?_|refine zo rfl rfl (by first|exact trivial|(simp only[AllP];omega)|(simp(discharger:=omega)only[AllP,cA,cB];omega)|(simp only[AllP,cC,cD,cE,cF,cG];omega)) ?_|refine zn ?_|refine zb ?_|refine ze rfl ?_|refine zr ?_|refine zk ?_|refine zT rfl rfl rfl ?_|refine zU rfl rfl rfl ?_|refine zV rfl rfl rfl ?_|refine zf rfl ?_|refine zt rfl ?_)
      refine ⟨i + 1, rfl, ⟨rfl, by omega, fun y hy => ?_⟩, by omega⟩
      rw [htk] at hy
      rcases List.mem_append.1 hy with hy | hy
      · exact hno y hy
      · simp at hy; rw [hy]; omega
  · have hie : i = l.length := by omega
    subst hie
    rw [List.take_length] at hno
    (repeat first|refine zA ?_|refine zB ?_|refine zC ?_|refine zD ?_|refine zE ?_|refine zg ?_|refine zo rfl rfl (by first|exact trivial|(simp only[AllP];omega)|(simp(discharger:=omega)only[AllP,cA,cB];omega)|(simp only[AllP,cC,cD,cE,cF,cG];omega)) ?_|refine zn ?_|refine zb ?_|refine ze rfl ?_|refine zr ?_|refine zk ?_|refine zT rfl rfl rfl ?_|refine zU rfl rfl rfl ?_|refine zV rfl rfl rfl ?_|refine zf rfl ?_|refine zt rfl ?_)
    refine ⟨_, rfl, ?_, rfl⟩
    have : l.find? (fun (x : Nat) => decide (n ≤ (x : Int))) = none := List.find?_eq_none.2 fun y hy => by have := hno y hy; simp; omega
    unfold nextL; rw [this]
end
end Go.Vc
