/- Query: a tree's text. -/
import Derived.Test.YtkgngbpkiklckaaGreatDoorQClQAlike22
namespace Go.Vc
open Go Go.Proofs
set_option maxRecDepth 10000
variable {w : World}
/-- kids' texts, commas between -/
def joinC : List QT → List UInt8
  | [] => []
  | x :: r => toldM x ++ r.flatMap fun y => [44, 32] ++ toldM y
theorem joinC_snoc (l : List QT) (x : QT) : joinC (l ++ [x]) = joinC l ++ (if l = [] then [] else [44, 32]) ++ toldM x := by
  cases l with
  | nil => simp [joinC]
  | cons y r => simp [joinC]
def brkM (t : QT) : List UInt8 := brk t (toldM t)
/-- the operation of a tree that may be -/
theorem good_op {t : QT} (hg : goodT t) : ∃ k : Nat, t.op = k ∧ 1 ≤ k ∧ k ≤ 26 ∧ t.kids.length = kidsO k := by
  cases t with
  | n0 op num name => rcases hg with ⟨rfl, _⟩ | ⟨rfl, _⟩ | ⟨rfl, _⟩; exact ⟨1, rfl, by omega, by omega, rfl⟩; exact ⟨2, rfl, by omega, by omega, rfl⟩; exact ⟨3, rfl, by omega, by omega, rfl⟩
  | n1 op num name a =>
    obtain ⟨_, _, ⟨h, _⟩ | ⟨h, _⟩⟩ := hg
    · rcases h with rfl | rfl | rfl | rfl | rfl
      · exact ⟨4, rfl, by omega, by omega, rfl⟩
      · exact ⟨8, rfl, by omega, by omega, rfl⟩
      · exact ⟨9, rfl, by omega, by omega, rfl⟩
      · exact ⟨10, rfl, by omega, by omega, rfl⟩
      · exact ⟨17, rfl, by omega, by omega, rfl⟩
    · rcases h with rfl | rfl | rfl | rfl | rfl
      · exact ⟨22, rfl, by omega, by omega, rfl⟩
      · exact ⟨23, rfl, by omega, by omega, rfl⟩
      · exact ⟨24, rfl, by omega, by omega, rfl⟩
      · exact ⟨25, rfl, by omega, by omega, rfl⟩
      · exact ⟨26, rfl, by omega, by omega, rfl⟩
  | n2 op num name a b =>
    obtain ⟨_, _, _, _, h⟩ := hg
    rcases h with rfl | rfl | rfl | rfl | rfl | rfl | rfl | rfl | rfl | rfl | rfl | rfl | rfl
    · exact ⟨5, rfl, by omega, by omega, rfl⟩
    · exact ⟨6, rfl, by omega, by omega, rfl⟩
    · exact ⟨7, rfl, by omega, by omega, rfl⟩
    · exact ⟨11, rfl, by omega, by omega, rfl⟩
    · exact ⟨12, rfl, by omega, by omega, rfl⟩
    · exact ⟨13, rfl, by omega, by omega, rfl⟩
    · exact ⟨14, rfl, by omega, by omega, rfl⟩
    · exact ⟨15, rfl, by omega, by omega, rfl⟩
    · exact ⟨16, rfl, by omega, by omega, rfl⟩
    · exact ⟨18, rfl, by omega, by omega, rfl⟩
    · exact ⟨19, rfl, by omega, by omega, rfl⟩
    · exact ⟨20, rfl, by omega, by omega, rfl⟩
    · exact ⟨21, rfl, by omega, by omega, rfl⟩
theorem good_kids {t : QT} (hg : goodT t) : ∀ k ∈ t.kids, goodT k := by
  intro k hk
  cases t with
  | n0 => simp [QT.kids] at hk
  | n1 op num name a => simp [QT.kids] at hk; subst hk; exact hg.2.1
  | n2 op num name a b => simp [QT.kids] at hk; rcases hk with rfl | rfl; exact hg.2.1; exact hg.2.2.1
/-- a tree's text by its kids -/
theorem told_kids {t : QT} {k : Nat} (hg : goodT t) (hk : t.op = k) : toldM t =
    if k = 1 then Lib.decDigits t.num.toNat else if k = 2 then t.name
    else if callO k then opWord k ++ [40] ++ joinC t.kids ++ [41]
    else if bindsO k then opWord k ++ [32] ++ t.name ++ [58, 32] ++ t.kids.flatMap toldM
    else if kidsO k = 2 then brkM (t.kids.getD 0 t) ++ ([32] ++ opWord k ++ [32]) ++ brkM (t.kids.getD 1 t)
    else opWord k ++ (if k = 17 then [32] else []) ++ t.kids.flatMap brkM := by
  cases t with
  | n0 op num name =>
    have hk : op = k := hk
    rcases hg with ⟨rfl, _⟩ | ⟨rfl, _⟩ | ⟨rfl, _⟩
    · obtain rfl : k = 1 := by omega
      rfl
    · obtain rfl : k = 2 := by omega
      rfl
    · obtain rfl : k = 3 := by omega
      rfl
  | n1 op num name a =>
    have hk : op = k := hk
    subst hk
    obtain ⟨_, _, ⟨h, _⟩ | ⟨h, _⟩⟩ := hg
    · have : k = 4 ∨ k = 8 ∨ k = 9 ∨ k = 10 ∨ k = 17 := by omega
      rcases this with rfl | rfl | rfl | rfl | rfl <;> simp [toldM, callO, bindsO, kidsO, QT.kids, joinC, brkM]
    · have : k = 22 ∨ k = 23 ∨ k = 24 ∨ k = 25 ∨ k = 26 := by omega
      rcases this with rfl | rfl | rfl | rfl | rfl <;> simp [toldM, callO, bindsO, kidsO, QT.kids, joinC, brkM, QT.name]
  | n2 op num name a b =>
    have hk : op = k := hk
    subst hk
    obtain ⟨_, _, _, _, h⟩ := hg
    have : k = 5 ∨ k = 6 ∨ k = 7 ∨ k = 11 ∨ k = 12 ∨ k = 13 ∨ k = 14 ∨ k = 15 ∨ k = 16 ∨ k = 18 ∨ k = 19 ∨ k = 20 ∨ k = 21 := by omega
    rcases this with rfl | rfl | rfl | rfl | rfl | rfl | rfl | rfl | rfl | rfl | rfl | rfl | rfl <;> simp [toldM, callO, bindsO, kidsO, QT.kids, joinC, brkM]
/-- what text does -/
def TextOk (t : QT) : Prop := ∀ {w0 W : World} {b lo p : Nat} {l : List UInt8}, PowQ w0 → TreeAt shQ lo w0 t p → goodT t → BdAt w0 W b l → l.length + (toldM t).length ≤ 35184372088832 →
  Ret Tryz.prog 37 [ptr p, ptr b] W (fun v W' => v = .tuple #[] ∧ BdTo w0 W b (l ++ toldM t) W')
/-- a kid's text, in brackets if it wants them -/
theorem kid_ok {t : QT} (ih : TextOk t) {w0 W : World} {b b3 lo p : Nat} {l : List UInt8} (hP : PowQ w0) (hT : TreeAt shQ lo w0 t p) (hg : goodT t) (hb : BdAt w0 W b l) (h3 : Blk W b3 [ptr b] 89) (hne : b3 ≠ b) (hl : l.length + (brkM t).length ≤ 35184372088832) :
    Ret Tryz.prog 73 [ptr p, ptr b3] W (fun v W' => v = .tuple #[] ∧ BdTo w0 W b (l ++ brkM t) W') := by
  obtain ⟨k, hk, hk1, hk2, hkl⟩ := good_op hg
  obtain ⟨bad, bcap, ks, hks, hB, hR, hK, _⟩ := hT.view
  have hBW := hb.kp.blk (by simp) hB
  rw [hk] at hBW
  have hbrk : brkM t = if callO k = true ∨ kidsO k = 0 then toldM t else 40 :: (toldM t ++ [41]) := by
    unfold brkM brk; rw [hk]; rfl
  refine enter Tryz.call73 Tryz.func73 rfl rfl rfl rfl ?_
  (repeat first|refine zA ?_|refine zB ?_|refine zg ?_|refine zo rfl rfl trivial ?_)
  refine o_load (v := .bool (callO k)) rfl hBW rfl rfl rfl rfl rfl ?_
  refine o_bool [0, 1] [ptr p, ptr b3] 15 (callO k || decide (kidsO k = 0)) (fun W' => W' = W) ?_ ?_
  · (repeat refine zo rfl rfl trivial ?_)
    refine o_split _ _ rfl rfl rfl (fun h1 => ?_) (fun h1 => ?_)
    · (repeat first|refine zo rfl rfl trivial ?_|refine zn ?_)
      exact ⟨rfl, ⟨_, rfl, by rw [h1]; rfl⟩, rfl⟩
    · (repeat refine zo rfl rfl trivial ?_)
      refine o_load (v := I (kidsO k)) rfl hBW rfl rfl rfl rfl rfl ?_
      (repeat first|refine zo rfl rfl trivial ?_|refine zn ?_)
      exact ⟨rfl, ⟨_, rfl, by rw [h1, Bool.false_or, decide_eq_decide]; omega⟩, rfl⟩
  rintro e1 W' rfl
  refine r_cond rfl (fun hc => ?_) (fun hc => ?_)
  · rw [if_pos (by simpa using hc)] at hbrk
    rw [hbrk] at hl ⊢
    (repeat first|refine zA ?_|refine zg ?_|refine zo rfl rfl trivial ?_)
    refine o_load rfl h3 rfl rfl rfl rfl rfl ?_
    refine o_call (ih hP hT hg hb hl) rfl rfl rfl ?_
    rintro v w1 ⟨rfl, hb1⟩
    (repeat first|refine zn ?_|refine zr ?_)
    exact ⟨_, rfl, rfl, hb1⟩
  · rw [if_neg (by simpa using hc)] at hbrk
    rw [hbrk] at hl ⊢
    simp only [List.length_cons, List.length_append, List.length_nil] at hl
    (repeat first|refine zA ?_|refine zg ?_|refine zk ?_)
    refine o_load rfl h3 rfl rfl rfl rfl rfl ?_
    refine o_call (WriteByte_ret hb (by omega) 40) rfl rfl rfl ?_
    rintro v w1 ⟨rfl, hb1⟩
    (repeat first|refine zA ?_|refine zg ?_|refine zo rfl rfl trivial ?_|refine zn ?_)
    refine o_load rfl (hb1.blk h3 hne (by decide)) rfl rfl rfl rfl rfl ?_
    refine o_call (ih hP hT hg hb1.toBdAt (by simp; omega)) rfl rfl rfl ?_
    rintro v w2 ⟨rfl, hb2⟩
    have hb12 := hb1.trans hb2
    (repeat first|refine zg ?_|refine zn ?_)
    refine o_load rfl (hb12.blk h3 hne (by decide)) rfl rfl rfl rfl rfl ?_
    refine o_call (WriteByte_ret hb12.toBdAt (by simp; omega) 41) rfl rfl rfl ?_
    rintro v w3 ⟨rfl, hb3⟩
    (repeat refine zn ?_)
    refine ⟨_, rfl, rfl, ?_⟩
    have := hb12.trans hb3
    simpa using this
theorem flat_take {α β : Type} (l : List α) (f : α → List β) {i : Nat} {x : α} (h : l[i]? = some x) : (l.take (i + 1)).flatMap f = (l.take i).flatMap f ++ f x := by
  rw [List.take_add_one, h]; simp
set_option maxHeartbeats 25600000 in
theorem text_ok : ∀ t, TextOk t := by
  intro t
  induction t using QT.ind with
  | h t ih =>
  intro w0 W b lo p l hP hT hg hb hl
  obtain ⟨k, hk, hk1, hk2, hkl⟩ := good_op hg
  obtain ⟨bad, bcap, ks, hks, hB, hR, hK, _⟩ := hT.view
  have hksl : ks.length = kidsO k := by rw [← hkl, ← hks, List.length_map]
  have hkd := kidsO_le k
  have hkid : ∀ x ∈ ks, TextOk x.2 ∧ goodT x.2 := fun x hx => by
    have : x.2 ∈ t.kids := by rw [← hks]; exact List.mem_map_of_mem hx
    exact ⟨ih _ this, good_kids hg _ this⟩
  have hto := told_kids hg hk
  have hBW := hb.kp.blk (by simp) hB
  have hlo := hb.ge
  have hRW := hR.kp hb.kp (by simp)
  rw [hk] at hBW hB
  -- kids' places
  have hkcell : ∀ i x, ks[i]? = some x → ∃ b0 off, bad = some ⟨b0, off, none⟩ ∧ ∀ W', Kp [] w0 W' → W'.cell? ⟨b0, off + i, none⟩ = some (ptr x.1) := fun i x hx => by
    have hi := (List.getElem?_eq_some_iff.1 hx).1
    obtain ⟨b0, off, e, hb0, hc⟩ := hR.at_ (by simp; omega)
    refine ⟨b0, off, e, fun W' hk' => ?_⟩
    rw [← hc i (ptr x.1) (by rw [List.getElem?_map, hx]; rfl)]
    exact World.cell?_of_block (hk'.at_ b0 hb0 (by simp))
  refine enter Tryz.call37 Tryz.func37 rfl rfl rfl rfl ?_
  (repeat first|refine zA ?_|refine zg ?_)
  refine o_box rfl rfl rfl ?_
  intro b3 w1 hb3 hu1
  have k1 : Kp [] W w1 := hu1.kp [] (.inr (by omega))
  have h31 : Blk w1 b3 [ptr b] 89 := hu1.blk
  have hb1 := hb.kp' k1
  have hne : b3 ≠ b := by
    have : b < W.heap.size := by
      rcases hb.is with h | h
      · obtain ⟨_, v, h2, _⟩ := h; exact (Array.getElem?_eq_some_iff.1 h2).1
      · obtain ⟨_, v, h2, _⟩ := h; exact (Array.getElem?_eq_some_iff.1 h2).1
    omega
  have hB1 := k1.blk (by simp) hBW
  clear hu1
  have fin : ∀ {w' : World} {r : List UInt8}, BdTo w0 w1 b r w' → r = l ++ toldM t → BdTo w0 W b (l ++ toldM t) w' := fun h e => e ▸ h.since k1
  (repeat first|refine zA ?_|refine zg ?_|refine zo rfl rfl trivial ?_|refine zn ?_|refine zb ?_|refine o_load rfl hB1 rfl rfl rfl rfl rfl ?_)
  refine r_if rfl (fun h1 => ?_) (fun h1 => ?_)
  · have h1 : k = 1 := by omega
    rw [if_pos h1] at hto
    rw [hto] at hl
    have hnum : 0 ≤ t.num ∧ t.num ≤ 9223372036854775807 := by
      cases t with
      | n0 op num name =>
        have hk : op = k := hk
        rcases hg with ⟨_, h1, h2, _⟩ | ⟨h, _⟩ | ⟨h, _⟩
        · exact ⟨h1, h2⟩
        · omega
        · omega
      | n1 op num name a => obtain ⟨rfl, _, _⟩ := hg; exact ⟨by show (0 : Int) ≤ 0; omega, by show (0 : Int) ≤ _; omega⟩
      | n2 op num name a b => obtain ⟨rfl, _, _⟩ := hg; exact ⟨by show (0 : Int) ≤ 0; omega, by show (0 : Int) ≤ _; omega⟩
    obtain ⟨u, hu⟩ : ∃ u : Nat, t.num = u := ⟨t.num.toNat, by omega⟩
    rw [hu, Int.toNat_natCast] at hto hl
    rw [hu] at hB1
    refine r_lastKL follows_mixed rfl (by kernel_rfl) (by kernel_rfl) ?_
    refine q_load rfl (fun _ hs => (Kp.blk hs (by simp) h31).cell rfl) rfl rfl rfl rfl ?_
    (repeat first|refine yo rfl rfl trivial ?_|refine q_load rfl (fun _ hs => (Kp.blk hs (by simp) hB1).cell rfl) rfl rfl rfl rfl ?_)
    refine q_call (S (Lib.decDigits u)) (fun w' hw => (Itoa_ret (hP.kp (hb1.kp.trans hw) (by simp)) u (by omega)).mono (fun v w'' ⟨h1, h2⟩ => ⟨h1, hw.trans h2⟩)) Tryz.call76 rfl rfl rfl ?_
    (repeat refine yn ?_)
    intro w' hs
    refine o_call (WriteString_ret (hb1.kp' hs) (Lib.decDigits u) (by omega)) rfl rfl rfl ?_
    rintro v w2 ⟨rfl, hb2⟩
    (repeat refine zn ?_)
    exact ⟨_, rfl, rfl, fin (hb2.since hs) (by rw [hto])⟩
  rw [if_neg (by omega)] at hto
  (repeat first|refine zA ?_|refine zg ?_|refine zo rfl rfl trivial ?_|refine zn ?_|refine o_load rfl hB1 rfl rfl rfl rfl rfl ?_)
  refine r_if rfl (fun h2 => ?_) (fun h2 => ?_)
  · have h2 : k = 2 := by omega
    rw [if_pos h2] at hto
    rw [hto] at hl
    refine r_lastL follows_mixed rfl (by kernel_rfl) (by kernel_rfl) ?_
    refine q_load rfl (fun _ hs => (Sm.blk hs h31).cell rfl) rfl rfl rfl rfl ?_
    (repeat first|refine yo rfl rfl trivial ?_|refine yn ?_|refine q_load rfl (fun _ hs => (Sm.blk hs hB1).cell rfl) rfl rfl rfl rfl ?_)
    intro w' hs
    refine o_call (WriteString_ret (hb1.kp' (hs.kp [])) t.name (by omega)) rfl rfl rfl ?_
    rintro v w2 ⟨rfl, hb2⟩
    (repeat refine zn ?_)
    exact ⟨_, rfl, rfl, fin (hb2.since (hs.kp [])) (by rw [hto])⟩
  rw [if_neg (by omega)] at hto
  (repeat first|refine zA ?_|refine zg ?_|refine zo rfl rfl trivial ?_)
  refine o_load (v := .bool (callO k)) rfl hB1 rfl rfl rfl rfl rfl ?_
  (repeat first|refine zo rfl rfl trivial ?_|refine zn ?_)
  have hwl : (opWord k).length ≤ 6 := by
    have hall : ∀ k ∈ List.range 27, (opWord k).length ≤ 6 := by decide
    exact hall k (List.mem_range.2 (by omega))
  refine r_cond rfl (fun hca => ?_) (fun hca => ?_)
  · -- a call
    rw [if_pos hca] at hto
    have hlen := congrArg List.length hto
    simp only [List.length_append, List.length_cons, List.length_nil] at hlen
    refine r_seq ?_
    refine r_cut (α := Unit) [0, 3] (fun _ => [ptr p, ptr b3]) (fun _ W' => BdTo w0 w1 b (l ++ (opWord k ++ [40])) W') ?_ ?_
    · refine r_lastL follows_mixed rfl (by kernel_rfl) (by kernel_rfl) ?_
      refine q_load rfl (fun _ hs => (Sm.blk hs h31).cell rfl) rfl rfl rfl rfl ?_
      (repeat refine yo rfl rfl trivial ?_)
      refine q_load (v := S (opWord k)) rfl (fun _ hs => (Sm.blk hs hB1).cell rfl) rfl rfl rfl rfl ?_
      refine yo rfl rfl (by simp only [AllP, List.length_cons, List.length_nil]; omega) ?_
      refine yn ?_
      intro w' hs
      refine o_call (WriteString_ret (hb1.kp' (hs.kp [])) (opWord k ++ [40]) (by simp; omega)) rfl rfl rfl ?_
      rintro v w2 ⟨rfl, hb2⟩
      exact o_nil ⟨(), rfl, hb2.since (hs.kp [])⟩
    rintro _ e2 w2 hb2
    have hB2 := hb2.kp.blk (by simp) hB
    (repeat first|refine zA ?_|refine zB ?_|refine zg ?_|refine zo rfl rfl trivial ?_)
    refine o_load (v := .slice bad ks.length bcap) rfl hB2 rfl rfl rfl rfl rfl ?_
    (repeat first|refine zo rfl rfl trivial ?_|refine zn ?_|refine zb ?_)
    have hjl : ∀ i, (joinC ((ks.take i).map (·.2))).length ≤ (joinC t.kids).length := by
      intro i
      rw [← hks]
      have e : ks.map (·.2) = (ks.take i).map (·.2) ++ (ks.drop i).map (·.2) := by rw [← List.map_append, List.take_append_drop]
      rw [e]
      generalize (ks.take i).map (·.2) = a
      generalize (ks.drop i).map (·.2) = c
      cases a with
      | nil => simp [joinC]
      | cons x r => simp only [joinC, List.cons_append, List.flatMap_append, List.length_append]; omega
    refine r_loop (α := Nat) [0, 3, 84, 85, 86] (fun i => [ptr p, ptr b3, .slice bad ks.length bcap, I ks.length, I i]) (fun i W' => i ≤ ks.length ∧ BdTo w0 w1 b (l ++ (opWord k ++ [40]) ++ joinC ((ks.take i).map (·.2))) W') (fun i => ks.length - i) 0 rfl ⟨by omega, by simpa [joinC] using hb2⟩ ?_
    rintro i e3 W3 ⟨hi, hbW⟩
    (repeat first|refine zA ?_|refine zD ?_|refine zg ?_|refine zo rfl rfl trivial ?_|refine zn ?_)
    refine r_if rfl (fun hc => ?_) (fun hc => ?_)
    · have hi2 : i < ks.length := by omega
      obtain ⟨x, hx⟩ : ∃ x, ks[i]? = some x := ⟨_, List.getElem?_eq_getElem hi2⟩
      obtain ⟨b0, off, rfl, hcell⟩ := hkcell i x hx
      have ht1 : ks.take (i + 1) = ks.take i ++ [x] := by rw [List.take_add_one, hx]; rfl
      have hj1 : joinC ((ks.take (i + 1)).map (·.2)) = joinC ((ks.take i).map (·.2)) ++ (if i = 0 then [] else [44, 32]) ++ toldM x.2 := by
        rw [ht1, List.map_append, List.map_singleton, joinC_snoc]
        congr 2
        cases i with
        | zero => rfl
        | succ i => rw [if_neg (by intro h; have h := congrArg List.length h; rw [List.length_map, List.length_take, List.length_nil] at h; omega), if_neg (by omega)]
      have hj2 := hjl (i + 1)
      rw [hj1] at hj2
      simp only [List.length_append] at hj2
      obtain ⟨ih1, hg1⟩ := hkid x (List.mem_of_getElem? hx)
      have hTx := hK x (List.mem_of_getElem? hx)
      (repeat first|refine zA ?_|refine zC ?_|refine zg ?_|refine zo rfl rfl (by first|exact trivial|(simp only[AllP];omega)) ?_|refine zb ?_|refine zk ?_)
      refine o_loadc (v := ptr x.1) rfl (by rw [toNat_nat]; exact hcell _ hbW.kp) rfl rfl rfl rfl ?_
      (repeat first|refine zA ?_|refine zB ?_|refine zg ?_|refine zo rfl rfl trivial ?_|refine zn ?_)
      refine r_cut (α := Unit) [0, 3, 6, 84, 85, 86] (fun _ => [ptr p, ptr b3, ptr x.1, .slice (some ⟨b0, off, none⟩) ks.length bcap, I ks.length, I i]) (fun _ W' => BdTo w0 w1 b (l ++ (opWord k ++ [40]) ++ joinC ((ks.take i).map (·.2)) ++ (if i = 0 then [] else [44, 32])) W') ?_ ?_
      · refine r_if rfl (fun h0 => ?_) (fun h0 => ?_)
        · rw [if_neg (by omega)] at hj2 ⊢
          simp only [List.length_cons, List.length_nil] at hj2
          (repeat refine zg ?_)
          refine o_load rfl (hbW.blk h31 hne (by decide)) rfl rfl rfl rfl rfl ?_
          refine o_call (WriteString_ret hbW.toBdAt [44, 32] (by simp only [List.length_append, List.length_cons, List.length_nil]; omega)) rfl rfl rfl ?_
          rintro v w4 ⟨rfl, hb4⟩
          (repeat refine zn ?_)
          exact ⟨(), rfl, hbW.trans hb4⟩
        · rw [if_pos (by omega), List.append_nil]
          (repeat refine zk ?_)
          exact ⟨(), rfl, hbW⟩
      rintro _ e4 w4 hb4
      (repeat first|refine zg ?_|refine zo rfl rfl trivial ?_)
      refine o_load rfl (hb4.blk h31 hne (by decide)) rfl rfl rfl rfl rfl ?_
      refine o_call (ih1 hP hTx hg1 hb4.toBdAt (by simp only [List.length_append, List.length_cons, List.length_nil]; omega)) rfl rfl rfl ?_
      rintro v w5 ⟨rfl, hb5⟩
      (repeat first|refine zg ?_|refine zo rfl rfl (by first|exact trivial|(simp only[AllP];omega)) ?_|refine zn ?_)
      refine ⟨i + 1, rfl, ⟨by omega, ?_⟩, by omega⟩
      rw [hj1, ← List.append_assoc, ← List.append_assoc]
      exact hb4.trans hb5
    · have hi3 : i = ks.length := by omega
      subst hi3
      rw [List.take_length, hks] at hbW
      (repeat first|refine zg ?_|refine ze rfl ?_)
      refine o_load rfl (hbW.blk h31 hne (by decide)) rfl rfl rfl rfl rfl ?_
      refine o_call (WriteByte_ret hbW.toBdAt (by simp only [List.length_append, List.length_cons, List.length_nil]; omega) 41) rfl rfl rfl ?_
      rintro v w5 ⟨rfl, hb5⟩
      (repeat refine zn ?_)
      exact ⟨_, rfl, rfl, fin (hbW.trans hb5) (by rw [hto]; simp)⟩
  rw [if_neg (by rw [hca]; simp)] at hto
  (repeat first|refine zA ?_|refine zg ?_|refine zo rfl rfl trivial ?_)
  refine o_load (v := .bool (bindsO k)) rfl hB1 rfl rfl rfl rfl rfl ?_
  (repeat first|refine zo rfl rfl trivial ?_|refine zn ?_)
  refine r_cond rfl (fun hbi => ?_) (fun hbi => ?_)
  · -- what binds
    rw [if_pos hbi] at hto
    have hk1' : kidsO k = 1 := by
      simp only [bindsO, Bool.and_eq_true, decide_eq_true_eq] at hbi
      have : k = 22 ∨ k = 23 ∨ k = 24 ∨ k = 25 ∨ k = 26 := by omega
      rcases this with rfl | rfl | rfl | rfl | rfl <;> rfl
    obtain ⟨x, hx⟩ : ∃ x, ks[0]? = some x := ⟨_, List.getElem?_eq_getElem (by omega)⟩
    have hkx : t.kids = [x.2] := by
      rw [← hks]
      match ks, hx, (show ks.length = 1 by omega) with
      | [y], hx, _ => simp at hx; subst hx; rfl
    obtain ⟨b0, off, rfl, hcell⟩ := hkcell 0 x hx
    obtain ⟨ih1, hg1⟩ := hkid x (List.mem_of_getElem? hx)
    have hTx := hK x (List.mem_of_getElem? hx)
    rw [hkx] at hto
    simp only [List.flatMap_cons, List.flatMap_nil, List.append_nil] at hto
    have hlen := congrArg List.length hto
    simp only [List.length_append, List.length_cons, List.length_nil] at hlen
    refine r_seq ?_
    refine r_cut (α := Unit) [0, 3] (fun _ => [ptr p, ptr b3]) (fun _ W' => BdTo w0 w1 b (l ++ (opWord k ++ [32] ++ t.name ++ [58, 32])) W') ?_ ?_
    · refine r_lastL follows_mixed rfl (by kernel_rfl) (by kernel_rfl) ?_
      refine q_load rfl (fun _ hs => (Sm.blk hs h31).cell rfl) rfl rfl rfl rfl ?_
      (repeat refine yo rfl rfl trivial ?_)
      refine q_load (v := S (opWord k)) rfl (fun _ hs => (Sm.blk hs hB1).cell rfl) rfl rfl rfl rfl ?_
      refine yo rfl rfl (by simp only [AllP, List.length_cons, List.length_nil]; omega) ?_
      refine q_load (v := S t.name) rfl (fun _ hs => (Sm.blk hs hB1).cell rfl) rfl rfl rfl rfl ?_
      refine yo rfl rfl (by simp only [AllP, List.length_append, List.length_cons, List.length_nil]; omega) ?_
      refine yn ?_
      intro w' hs
      refine o_call (WriteString_ret (hb1.kp' (hs.kp [])) (opWord k ++ [32] ++ t.name ++ [58, 32]) (by simp only [List.length_append, List.length_cons, List.length_nil]; omega)) rfl rfl rfl ?_
      rintro v w2 ⟨rfl, hb2⟩
      exact o_nil ⟨(), rfl, hb2.since (hs.kp [])⟩
    rintro _ e2 w2 hb2
    have hB2 := hb2.kp.blk (by simp) hB
    have h32 := hb2.blk h31 hne (by decide)
    refine r_lastL follows_mixed rfl (by kernel_rfl) (by kernel_rfl) ?_
    (repeat refine yo rfl rfl trivial ?_)
    refine q_load (v := .slice (some ⟨b0, off, none⟩) ks.length bcap) rfl (fun _ hs => (Sm.blk hs hB2).cell rfl) rfl rfl rfl rfl ?_
    refine yo rfl rfl (by simp only [AllP]; omega) ?_
    refine q_load (v := ptr x.1) rfl (fun w' hs => hcell w' (hb2.kp.trans (hs.kp []))) rfl rfl rfl rfl ?_
    (repeat first|refine yn ?_|refine q_load rfl (fun _ hs => (Sm.blk hs h32).cell rfl) rfl rfl rfl rfl ?_)
    intro w' hs
    refine o_call (ih1 hP hTx hg1 (hb2.kp' (hs.kp [])) (by simp only [List.length_append, List.length_cons, List.length_nil]; omega)) rfl rfl rfl ?_
    rintro v w5 ⟨rfl, hb5⟩
    (repeat refine zn ?_)
    exact ⟨_, rfl, rfl, fin (hb2.trans (hb5.since (hs.kp []))) (by rw [hto]; simp)⟩
  rw [if_neg (by rw [hbi]; simp)] at hto
  (repeat first|refine zA ?_|refine zg ?_|refine zo rfl rfl trivial ?_)
  refine o_load (v := I (kidsO k)) rfl hB1 rfl rfl rfl rfl rfl ?_
  (repeat first|refine zo rfl rfl trivial ?_|refine zn ?_)
  refine r_if rfl (fun h22 => ?_) (fun h22 => ?_)
  · -- between two
    have h22 : kidsO k = 2 := by omega
    rw [if_pos h22] at hto
    obtain ⟨x, hx⟩ : ∃ x, ks[0]? = some x := ⟨_, List.getElem?_eq_getElem (by omega)⟩
    obtain ⟨y, hy⟩ : ∃ y, ks[1]? = some y := ⟨_, List.getElem?_eq_getElem (by omega)⟩
    have hkx : t.kids = [x.2, y.2] := by
      rw [← hks]
      match ks, hx, hy, (show ks.length = 2 by omega) with
      | [u, v], hx, hy, _ => simp at hx hy; subst hx; subst hy; rfl
    obtain ⟨b0, off, rfl, hcell⟩ := hkcell 0 x hx
    obtain ⟨b0', off', he, hcell'⟩ := hkcell 1 y hy
    cases he
    obtain ⟨ih1, hg1⟩ := hkid x (List.mem_of_getElem? hx)
    obtain ⟨ih2, hg2⟩ := hkid y (List.mem_of_getElem? hy)
    have hTx := hK x (List.mem_of_getElem? hx)
    have hTy := hK y (List.mem_of_getElem? hy)
    rw [hkx] at hto
    have hto : toldM t = brkM x.2 ++ ([32] ++ opWord k ++ [32]) ++ brkM y.2 := hto
    have hlen := congrArg List.length hto
    simp only [List.length_append, List.length_cons, List.length_nil] at hlen
    (repeat first|refine zA ?_|refine zg ?_|refine zo rfl rfl trivial ?_)
    refine o_load (v := .slice (some ⟨b0, off, none⟩) ks.length bcap) rfl hB1 rfl rfl rfl rfl rfl ?_
    refine zo rfl rfl (by simp only [AllP]; omega) ?_
    refine o_loadc (v := ptr x.1) rfl (hcell _ hb1.kp) rfl rfl rfl rfl ?_
    refine o_callv (first := #[]) (cap := #[ptr b3]) (kid_ok ih1 hP hTx hg1 hb1 h31 hne (by omega)) rfl rfl rfl rfl ?_
    rintro v w2 ⟨rfl, hb2⟩
    have hB2 := hb2.kp.blk (by simp) hB
    have h32 := hb2.blk h31 hne (by decide)
    (repeat refine zn ?_)
    refine r_seq ?_
    refine r_cut (α := Unit) [0, 3, 4] (fun _ => [ptr p, ptr b3, .func (.func 73) #[] #[ptr b3]]) (fun _ W' => BdTo w0 w1 b (l ++ brkM x.2 ++ ([32] ++ opWord k ++ [32])) W') ?_ ?_
    · refine r_lastL follows_mixed rfl (by kernel_rfl) (by kernel_rfl) ?_
      refine q_load rfl (fun _ hs => (Sm.blk hs h32).cell rfl) rfl rfl rfl rfl ?_
      (repeat refine yo rfl rfl trivial ?_)
      refine q_load (v := S (opWord k)) rfl (fun _ hs => (Sm.blk hs hB2).cell rfl) rfl rfl rfl rfl ?_
      refine yo rfl rfl (by simp only [AllP, List.length_append, List.length_cons, List.length_nil]; omega) ?_
      refine yn ?_
      intro w' hs
      refine o_call (WriteString_ret (hb2.kp' (hs.kp [])) ([32] ++ opWord k ++ [32]) (by simp only [List.length_append, List.length_cons, List.length_nil]; omega)) rfl rfl rfl ?_
      rintro v w3 ⟨rfl, hb3⟩
      exact o_nil ⟨(), rfl, hb2.trans (hb3.since (hs.kp []))⟩
    rintro _ e3 w3 hb3
    have hB3 := hb3.kp.blk (by simp) hB
    (repeat first|refine zg ?_|refine zo rfl rfl trivial ?_)
    refine o_load (v := .slice (some ⟨b0, off, none⟩) ks.length bcap) rfl hB3 rfl rfl rfl rfl rfl ?_
    refine zo rfl rfl (by simp only [AllP]; omega) ?_
    refine o_loadc (v := ptr y.1) rfl (hcell' _ hb3.kp) rfl rfl rfl rfl ?_
    refine o_callv (first := #[]) (cap := #[ptr b3]) (kid_ok ih2 hP hTy hg2 hb3.toBdAt (hb3.blk h31 hne (by decide)) hne (by simp only [List.length_append, List.length_cons, List.length_nil]; omega)) rfl rfl rfl rfl ?_
    rintro v w4 ⟨rfl, hb4⟩
    (repeat refine zn ?_)
    exact ⟨_, rfl, rfl, fin (hb3.trans hb4) (by rw [hto]; simp)⟩
  rw [if_neg (by omega)] at hto
  have hlen := congrArg List.length hto
  simp only [List.length_append] at hlen
  refine r_seq ?_
  refine r_cut (α := Unit) [0, 3, 4] (fun _ => [ptr p, ptr b3, .func (.func 73) #[] #[ptr b3]]) (fun _ W' => BdTo w0 w1 b (l ++ opWord k) W') ?_ ?_
  · refine r_lastL follows_mixed rfl (by kernel_rfl) (by kernel_rfl) ?_
    refine q_load rfl (fun _ hs => (Sm.blk hs h31).cell rfl) rfl rfl rfl rfl ?_
    (repeat refine yo rfl rfl trivial ?_)
    refine q_load (v := S (opWord k)) rfl (fun _ hs => (Sm.blk hs hB1).cell rfl) rfl rfl rfl rfl ?_
    refine yn ?_
    intro w' hs
    refine o_call (WriteString_ret (hb1.kp' (hs.kp [])) (opWord k) (by omega)) rfl rfl rfl ?_
    rintro v w3 ⟨rfl, hb3⟩
    exact o_nil ⟨(), rfl, hb3.since (hs.kp [])⟩
  rintro _ e2 w2 hb2
  have hB2 := hb2.kp.blk (by simp) hB
  have h32 := hb2.blk h31 hne (by decide)
  (repeat first|refine zA ?_|refine zB ?_|refine zg ?_|refine zo rfl rfl trivial ?_|refine zn ?_|refine o_load rfl hB2 rfl rfl rfl rfl rfl ?_)
  refine r_cut (α := Unit) [0, 3, 4] (fun _ => [ptr p, ptr b3, .func (.func 73) #[] #[ptr b3]]) (fun _ W' => BdTo w0 w1 b (l ++ (opWord k ++ (if k = 17 then [32] else []))) W') ?_ ?_
  · refine r_if rfl (fun h17 => ?_) (fun h17 => ?_)
    · have h17 : k = 17 := by omega
      rw [if_pos h17] at hlen ⊢
      simp only [List.length_cons, List.length_nil] at hlen
      (repeat first|refine zg ?_|refine o_load rfl h32 rfl rfl rfl rfl rfl ?_)
      refine o_call (WriteByte_ret hb2.toBdAt (by simp only [List.length_append]; omega) 32) rfl rfl rfl ?_
      rintro v w3 ⟨rfl, hb3⟩
      (repeat refine zn ?_)
      refine ⟨(), rfl, ?_⟩
      rw [← List.append_assoc]
      exact hb2.trans hb3
    · rw [if_neg (by omega), List.append_nil]
      (repeat refine zk ?_)
      exact ⟨(), rfl, hb2⟩
  rintro _ e3 w3 hb3
  have hB3 := hb3.kp.blk (by simp) hB
  (repeat first|refine zA ?_|refine zg ?_|refine zo rfl rfl trivial ?_)
  refine o_load (v := .slice bad ks.length bcap) rfl hB3 rfl rfl rfl rfl rfl ?_
  (repeat first|refine zo rfl rfl trivial ?_|refine zn ?_|refine zb ?_)
  have hfl : ∀ i, ((ks.take i).flatMap fun y => brkM y.2).length ≤ (t.kids.flatMap brkM).length := by
    intro i
    rw [← hks, List.flatMap_map]
    conv => rhs; rw [← List.take_append_drop i ks]
    rw [List.flatMap_append, List.length_append]
    exact Nat.le_add_right _ _
  refine r_loop (α := Nat) [0, 3, 4, 28, 29, 30] (fun i => [ptr p, ptr b3, .func (.func 73) #[] #[ptr b3], .slice bad ks.length bcap, I ks.length, I i]) (fun i W' => i ≤ ks.length ∧ BdTo w0 w1 b (l ++ (opWord k ++ (if k = 17 then [32] else [])) ++ (ks.take i).flatMap fun y => brkM y.2) W') (fun i => ks.length - i) 0 rfl ⟨by omega, by simpa using hb3⟩ ?_
  rintro i e4 W4 ⟨hi, hbW⟩
  (repeat first|refine zA ?_|refine zD ?_|refine zg ?_|refine zo rfl rfl trivial ?_|refine zn ?_)
  refine r_if rfl (fun hc => ?_) (fun hc => ?_)
  · have hi2 : i < ks.length := by omega
    obtain ⟨x, hx⟩ : ∃ x, ks[i]? = some x := ⟨_, List.getElem?_eq_getElem hi2⟩
    obtain ⟨b0, off, rfl, hcell⟩ := hkcell i x hx
    have hj1 := flat_take ks (fun y => brkM y.2) hx
    have hj2 := hfl (i + 1)
    rw [hj1, List.length_append] at hj2
    obtain ⟨ih1, hg1⟩ := hkid x (List.mem_of_getElem? hx)
    have hTx := hK x (List.mem_of_getElem? hx)
    (repeat first|refine zA ?_|refine zC ?_|refine zg ?_|refine zo rfl rfl (by first|exact trivial|(simp only[AllP];omega)) ?_|refine zb ?_|refine zk ?_)
    refine o_loadc (v := ptr x.1) rfl (by rw [toNat_nat]; exact hcell _ hbW.kp) rfl rfl rfl rfl ?_
    (repeat first|refine zg ?_|refine zo rfl rfl trivial ?_|refine zn ?_)
    refine o_callv (first := #[]) (cap := #[ptr b3]) (kid_ok ih1 hP hTx hg1 hbW.toBdAt (hbW.blk h31 hne (by decide)) hne (by simp only [List.length_append]; omega)) rfl rfl rfl rfl ?_
    rintro v w5 ⟨rfl, hb5⟩
    (repeat first|refine zg ?_|refine zo rfl rfl (by first|exact trivial|(simp only[AllP];omega)) ?_|refine zn ?_)
    refine ⟨i + 1, rfl, ⟨by omega, ?_⟩, by omega⟩
    rw [hj1, ← List.append_assoc]
    exact hbW.trans hb5
  · have hi3 : i = ks.length := by omega
    subst hi3
    have e : (ks.flatMap fun y => brkM y.2) = t.kids.flatMap brkM := by rw [← hks, List.flatMap_map]
    rw [List.take_length, e] at hbW
    (repeat refine ze rfl ?_)
    exact ⟨_, rfl, rfl, fin hbW (by rw [hto]; simp)⟩
end Go.Vc
