/- bits: the document's lists: with, without, in, Copy; relations of the document in memory. -/
import Derived.Test.YtdfkhnhmcanncaaDoorBt18
import Derived.Test.YtdfkhnhmcanncaaDoorVcAg
namespace Go.Vc
open Go Go.Proofs
set_option maxRecDepth 10000
variable {w : World}

/-! ### Rising lists -/
theorem sorted_ext : ∀ {a b : List Nat}, a.Pairwise (· < ·) → b.Pairwise (· < ·) → (∀ x, x ∈ a ↔ x ∈ b) → a = b
  | [], [], _, _, _ => rfl
  | [], y :: b, _, _, h => by have := (h y).2 (by simp); simp at this
  | x :: a, [], _, _, h => by have := (h x).1 (by simp); simp at this
  | x :: a, y :: b, ha, hb, h => by
    rw [List.pairwise_cons] at ha hb
    have hxy : x = y := by
      have h1 := (h x).1 (by simp)
      have h2 := (h y).2 (by simp)
      rcases List.mem_cons.1 h1 with e | h1
      · exact e
      · rcases List.mem_cons.1 h2 with e | h2
        · exact e.symm
        · have := ha.1 y h2; have := hb.1 x h1; omega
    subst hxy
    congr 1
    refine sorted_ext ha.2 hb.2 fun z => ?_
    constructor
    · intro hz
      rcases List.mem_cons.1 ((h z).1 (by simp [hz])) with e | h1
      · have := ha.1 z hz; omega
      · exact h1
    · intro hz
      rcases List.mem_cons.1 ((h z).2 (by simp [hz])) with e | h1
      · have := hb.1 z hz; omega
      · exact h1
def withL (l : List Nat) (n : Nat) : List Nat := l.filter (fun x => decide (x < n)) ++ n :: l.filter (fun x => decide (n < x))
theorem mem_withL {l : List Nat} {n x : Nat} : x ∈ withL l n ↔ x ∈ l ∨ x = n := by
  unfold withL
  simp only [List.mem_append, List.mem_cons, List.mem_filter, decide_eq_true_eq]
  constructor
  · rintro (⟨h, _⟩ | h | ⟨h, _⟩)
    · exact .inl h
    · exact .inr h
    · exact .inl h
  · rintro (h | h)
    · rcases Nat.lt_trichotomy x n with h1 | h1 | h1
      · exact .inl ⟨h, h1⟩
      · exact .inr (.inl h1)
      · exact .inr (.inr ⟨h, h1⟩)
    · exact .inr (.inl h)
theorem sorted_withL {l : List Nat} (h : l.Pairwise (· < ·)) (n : Nat) : (withL l n).Pairwise (· < ·) := by
  unfold withL
  rw [List.pairwise_append, List.pairwise_cons]
  refine ⟨h.filter _, ⟨fun x hx => ?_, h.filter _⟩, fun x hx y hy => ?_⟩
  · simpa using (List.mem_filter.1 hx).2
  · have h1 : x < n := by simpa using (List.mem_filter.1 hx).2
    rcases List.mem_cons.1 hy with rfl | hy
    · exact h1
    · have h2 : n < y := by simpa using (List.mem_filter.1 hy).2
      omega
theorem withL_len (l : List Nat) (n : Nat) : (withL l n).length ≤ l.length + 1 := by
  unfold withL
  rw [List.length_append, List.length_cons]
  have : (l.filter fun x => decide (x < n)).length + (l.filter fun x => decide (n < x)).length ≤ l.length := by
    induction l with
    | nil => simp
    | cons y r ih =>
      simp only [List.filter_cons]
      by_cases h1 : y < n
      · have : ¬ n < y := by omega
        simp [h1, this]; omega
      · by_cases h2 : n < y
        · simp [h1, h2]; omega
        · simp [h1, h2]; omega
  omega
theorem elems_withL {ws ws' : List Nat} {n : Nat} (h : ∀ j, bit ws' j = (bit ws j || decide (j = n))) : elems ws' = withL (elems ws) n :=
  sorted_ext (elems_sorted _) (sorted_withL (elems_sorted _) n) fun x => by
    rw [mem_withL, mem_elems, mem_elems, h, Bool.or_eq_true, decide_eq_true_eq]
/-- one number is laid behind -/
theorem NewS.push {w' w2 w3 : World} {T : TypeId} {ad ad' : Option Addr} {n cap cap' : Nat} {xs ys : List Value} (h : NewS w T w' ad n cap xs) (k : Kp [] w' w2) (ho : OwnS w3 T 1 ad' (n + 1) cap' ys) (kp : Kp (blkOf ad) w2 w3) (hnew : ∀ b, b ∈ blkOf ad' → b ∈ blkOf ad ∨ w2.heap.size ≤ b) : NewS w T w3 ad' (n + 1) cap' ys :=
  ⟨ho, (h.kp.trans k).since kp h.new, fun b hb => by
    rcases hnew b hb with h1 | h1
    · exact h.new b h1
    · have := h.kp.size; have := k.size; omega⟩
theorem with_ret {ad : Option Addr} {l : List Nat} {c n : Nat} (h : ReadS w ad (l.map encI)) (hs : l.Pairwise (· < ·)) (hl : l.length ≤ 16777216) (hn : n ≤ 1048576) (hb : ∀ x ∈ l, x ≤ 1048576) :
    Ret Tryd.prog 73 [.slice ad l.length c, I n] w (fun v w' => ∃ ad' cap', v = .slice ad' (withL l n).length cap' ∧ NewS w 3 w' ad' (withL l n).length cap' ((withL l n).map encI)) := by
  refine enter Tryd.call73 Tryd.func73 rfl rfl rfl rfl ?_
  (repeat first|refine zA ?_|refine zB ?_|refine zC ?_|refine zD ?_|refine zE ?_|refine zg ?_|refine zo rfl rfl (by first|exact trivial|(simp only[AllP];omega)|(simp(discharger:=omega)only[AllP,cA,cB];omega)|(simp only[AllP,cC,cD,cE,cF,cG];omega)) ?_|refine zn ?_|refine zb ?_|refine ze rfl ?_|refine zr ?_|refine zk ?_|refine zT rfl rfl rfl ?_|refine zU rfl rfl rfl ?_|refine zV rfl rfl rfl ?_|refine zf rfl ?_|refine zt rfl ?_)
  refine r_loop (α := Nat × Bool × List Nat × Option Addr × Nat) [0, 1, 5, 6, 7] (fun g => [.slice ad l.length c, I n, .slice g.2.2.2.1 g.2.2.1.length g.2.2.2.2, .bool g.2.1, I g.1])
    (fun g w1 => NewS w 3 w1 g.2.2.2.1 g.2.2.1.length g.2.2.2.2 (g.2.2.1.map encI) ∧ g.1 ≤ l.length ∧ (g.2.1 = false → g.2.2.1 = l.take g.1 ∧ ∀ x ∈ l.take g.1, x < n) ∧ (g.2.1 = true → g.2.2.1 = withL (l.take g.1) n ∧ ∀ x ∈ l.drop g.1, n < x)) (fun g => l.length - g.1) (0, false, [], none, 0) rfl
    ⟨⟨ownS_nil _ _ _, Kp.refl _ _, by simp [blkOf]⟩, by omega, fun _ => ⟨by simp, by simp⟩, fun h => by cases h⟩ ?_
  rintro ⟨i, dn, out, ad1, cap1⟩ e w1 ⟨hN, hi, hf, ht⟩
  dsimp only at hN hi hf ht ⊢
  have hol : out.length ≤ l.length + 1 := by
    cases dn with
    | false => rw [(hf rfl).1]; simp; omega
    | true =>
      rw [(ht rfl).1]
      have := withL_len (l.take i) n
      simp at this; omega
  (repeat first|refine zA ?_|refine zB ?_|refine zC ?_|refine zD ?_|refine zE ?_|refine zg ?_|refine zo rfl rfl (by first|exact trivial|(simp only[AllP];omega)|(simp(discharger:=omega)only[AllP,cA,cB];omega)|(simp only[AllP,cC,cD,cE,cF,cG];omega)) ?_|refine zn ?_|refine zb ?_|refine ze rfl ?_|refine zr ?_|refine zk ?_|refine zT rfl rfl rfl ?_|refine zU rfl rfl rfl ?_|refine zV rfl rfl rfl ?_|refine zf rfl ?_|refine zt rfl ?_)
  refine r_if rfl (fun hc => ?_) (fun hc => ?_)
  · have hlt : i < l.length := by omega
    obtain ⟨x, hx⟩ : ∃ x, l[i]? = some x := ⟨_, List.getElem?_eq_getElem hlt⟩
    have htk : l.take (i + 1) = l.take i ++ [x] := by rw [List.take_add_one, hx]; rfl
    have hxb := hb x (List.mem_of_getElem? hx)
    have hdr : l.drop i = x :: l.drop (i + 1) := by
      rw [List.drop_eq_getElem_cons hlt]
      rw [List.getElem?_eq_getElem hlt] at hx
      cases hx; rfl
    have hafter : ∀ y ∈ l.drop (i + 1), x < y := by
      have := hs
      rw [← List.take_append_drop i l, hdr] at this
      exact (List.pairwise_cons.1 (List.pairwise_append.1 this).2.1).1
    have hbefore : ∀ y ∈ l.take i, y < x := by
      have := hs
      rw [← List.take_append_drop i l, hdr] at this
      exact fun y hy => (List.pairwise_append.1 this).2.2 y hy x (by simp)
    obtain ⟨b, o, rfl, hbl, hcell⟩ := h.at_ (by simp; omega)
    have hcx : ∀ w', Kp [] w w' → w'.cell? ⟨b, o + i, none⟩ = some (I (x : Int)) := fun w' hk => by
      rw [← hcell i _ (by rw [List.getElem?_map, hx]; rfl)]
      exact World.cell?_of_block (hk.at_ b hbl (by simp))
    (repeat first|refine zA ?_|refine zB ?_|refine zC ?_|refine zD ?_|refine zE ?_|refine zg ?_|refine zo rfl rfl (by first|exact trivial|(simp only[AllP];omega)|(simp(discharger:=omega)only[AllP,cA,cB];omega)|(simp only[AllP,cC,cD,cE,cF,cG];omega)) ?_|refine zn ?_|refine zb ?_|refine ze rfl ?_|refine zr ?_|refine zk ?_|refine zT rfl rfl rfl ?_|refine zU rfl rfl rfl ?_|refine zV rfl rfl rfl ?_|refine zf rfl ?_|refine zt rfl ?_)
    cases dn with
    | true =>
      obtain ⟨ho, hd⟩ := ht rfl
      have hnx : n < x := hd x (by rw [hdr]; simp)
      (repeat first|refine zA ?_|refine zB ?_|refine zC ?_|refine zD ?_|refine zE ?_|refine zg ?_|refine zo rfl rfl (by first|exact trivial|(simp only[AllP];omega)|(simp(discharger:=omega)only[AllP,cA,cB];omega)|(simp only[AllP,cC,cD,cE,cF,cG];omega)) ?_|refine zn ?_|refine zb ?_|refine ze rfl ?_|refine zr ?_|refine zk ?_|refine zT rfl rfl rfl ?_|refine zU rfl rfl rfl ?_|refine zV rfl rfl rfl ?_|refine zf rfl ?_|refine zt rfl ?_)
      refine o_loadc rfl (hcx w1 hN.kp) rfl rfl rfl rfl ?_
      (repeat first|refine zA ?_|refine zB ?_|refine zC ?_|refine zD ?_|refine zE ?_|refine zg ?_|refine zo rfl rfl (by first|exact trivial|(simp only[AllP];omega)|(simp(discharger:=omega)only[AllP,cA,cB];omega)|(simp only[AllP,cC,cD,cE,cF,cG];omega)) ?_|refine zn ?_|refine zb ?_|refine ze rfl ?_|refine zr ?_|refine zk ?_|refine zT rfl rfl rfl ?_|refine zU rfl rfl rfl ?_|refine zV rfl rfl rfl ?_|refine zf rfl ?_|refine zt rfl ?_)
      refine r_yes rfl (by simp; omega) ?_
      (repeat first|refine zA ?_|refine zB ?_|refine zC ?_|refine zD ?_|refine zE ?_|refine zg ?_|refine zo rfl rfl (by first|exact trivial|(simp only[AllP];omega)|(simp(discharger:=omega)only[AllP,cA,cB];omega)|(simp only[AllP,cC,cD,cE,cF,cG];omega)) ?_|refine zn ?_|refine zb ?_|refine ze rfl ?_|refine zr ?_|refine zk ?_|refine zT rfl rfl rfl ?_|refine zU rfl rfl rfl ?_|refine zV rfl rfl rfl ?_|refine zf rfl ?_|refine zt rfl ?_)
      refine o_loadc rfl (hcx w1 hN.kp) rfl rfl rfl rfl ?_
      (repeat first|refine zA ?_|refine zB ?_|refine zC ?_|refine zD ?_|refine zE ?_|refine zg ?_|refine zo rfl rfl (by first|exact trivial|(simp only[AllP];omega)|(simp(discharger:=omega)only[AllP,cA,cB];omega)|(simp only[AllP,cC,cD,cE,cF,cG];omega)) ?_|refine zn ?_|refine zb ?_|refine ze rfl ?_|refine zr ?_|refine zk ?_|refine zT rfl rfl rfl ?_|refine zU rfl rfl rfl ?_|refine zV rfl rfl rfl ?_|refine zf rfl ?_|refine zt rfl ?_)
      refine o_buildSlice [I (x : Int)] rfl (by simp [Value.oneCell']) rfl (by decide) (by decide) rfl rfl rfl rfl rfl ?_
      intro b3 w3 hb3 hu3
      have k3 : Kp [] w1 w3 := hu3.kp [] (.inr (by omega))
      refine o_append1 rfl rfl (hN.own.kp k3 (by simp)) hu3.blk rfl rfl rfl rfl (by simp only [maxLen]; omega) (by omega) rfl rfl ?_
      intro ad4 cap4 w4 ho4 k4 hnew4
      (repeat first|refine zA ?_|refine zB ?_|refine zC ?_|refine zD ?_|refine zE ?_|refine zg ?_|refine zo rfl rfl (by first|exact trivial|(simp only[AllP];omega)|(simp(discharger:=omega)only[AllP,cA,cB];omega)|(simp only[AllP,cC,cD,cE,cF,cG];omega)) ?_|refine zn ?_|refine zb ?_|refine ze rfl ?_|refine zr ?_|refine zk ?_|refine zT rfl rfl rfl ?_|refine zU rfl rfl rfl ?_|refine zV rfl rfl rfl ?_|refine zf rfl ?_|refine zt rfl ?_)
      have hp := hN.push k3 ho4 k4 hnew4
      have e1 : withL (l.take (i + 1)) n = out ++ [x] := by
        rw [htk, ho]
        unfold withL
        rw [List.filter_append, List.filter_append]
        have h1 : [x].filter (fun x => decide (x < n)) = [] := by simp; omega
        have h2 : [x].filter (fun x => decide (n < x)) = [x] := by simp; omega
        rw [h1, h2]; simp
      refine ⟨(i + 1, true, out ++ [x], ad4, cap4), ?_, ⟨by simpa [encI] using hp, by dsimp only; omega, fun h => (by cases h), fun _ => ⟨e1.symm, fun y hy => (by have := hafter y hy; omega)⟩⟩, by dsimp only; omega⟩
      dsimp only; rw [List.length_append]; rfl
    | false =>
      obtain ⟨ho, hd⟩ := hf rfl
      (repeat first|refine zA ?_|refine zB ?_|refine zC ?_|refine zD ?_|refine zE ?_|refine zg ?_|refine zo rfl rfl (by first|exact trivial|(simp only[AllP];omega)|(simp(discharger:=omega)only[AllP,cA,cB];omega)|(simp only[AllP,cC,cD,cE,cF,cG];omega)) ?_|refine zn ?_|refine zb ?_|refine ze rfl ?_|refine zr ?_|refine zk ?_|refine zT rfl rfl rfl ?_|refine zU rfl rfl rfl ?_|refine zV rfl rfl rfl ?_|refine zf rfl ?_|refine zt rfl ?_)
      refine o_loadc rfl (hcx w1 hN.kp) rfl rfl rfl rfl ?_
      (repeat first|refine zA ?_|refine zB ?_|refine zC ?_|refine zD ?_|refine zE ?_|refine zg ?_|refine zo rfl rfl (by first|exact trivial|(simp only[AllP];omega)|(simp(discharger:=omega)only[AllP,cA,cB];omega)|(simp only[AllP,cC,cD,cE,cF,cG];omega)) ?_|refine zn ?_|refine zb ?_|refine ze rfl ?_|refine zr ?_|refine zk ?_|refine zT rfl rfl rfl ?_|refine zU rfl rfl rfl ?_|refine zV rfl rfl rfl ?_|refine zf rfl ?_|refine zt rfl ?_)
      refine r_if (p := (n : Int) ≤ (x : Int)) rfl (fun hge => ?_) (fun hge => ?_)
      · (repeat first|refine zA ?_|refine zB ?_|refine zC ?_|refine zD ?_|refine zE ?_|refine zg ?_|refine zo rfl rfl (by first|exact trivial|(simp only[AllP];omega)|(simp(discharger:=omega)only[AllP,cA,cB];omega)|(simp only[AllP,cC,cD,cE,cF,cG];omega)) ?_|refine zn ?_|refine zb ?_|refine ze rfl ?_|refine zr ?_|refine zk ?_|refine zT rfl rfl rfl ?_|refine zU rfl rfl rfl ?_|refine zV rfl rfl rfl ?_|refine zf rfl ?_|refine zt rfl ?_)
        refine o_buildSlice [I (n : Int)] rfl (by simp [Value.oneCell']) rfl (by decide) (by decide) rfl rfl rfl rfl rfl ?_
        intro b3 w3 hb3 hu3
        have k3 : Kp [] w1 w3 := hu3.kp [] (.inr (by omega))
        refine o_append1 rfl rfl (hN.own.kp k3 (by simp)) hu3.blk rfl rfl rfl rfl (by simp only [maxLen]; omega) (by omega) rfl rfl ?_
        intro ad4 cap4 w4 ho4 k4 hnew4
        have hp := hN.push k3 ho4 k4 hnew4
        have hall : (l.take i).filter (fun x => decide (x < n)) = l.take i := List.filter_eq_self.2 fun y hy => by simpa using hd y hy
        have hnone : (l.take i).filter (fun x => decide (n < x)) = [] := List.filter_eq_nil_iff.2 fun y hy => by have := hd y hy; simp; omega
        (repeat first|refine zA ?_|refine zB ?_|refine zC ?_|refine zD ?_|refine zE ?_|refine zg ?_|refine zo rfl rfl (by first|exact trivial|(simp only[AllP];omega)|(simp(discharger:=omega)only[AllP,cA,cB];omega)|(simp only[AllP,cC,cD,cE,cF,cG];omega)) ?_|refine zn ?_|refine zb ?_|refine ze rfl ?_|refine zr ?_|refine zk ?_|refine zT rfl rfl rfl ?_|refine zU rfl rfl rfl ?_|refine zV rfl rfl rfl ?_|refine zf rfl ?_|refine zt rfl ?_)
        refine o_loadc rfl (hcx w4 hp.kp) rfl rfl rfl rfl ?_
        (repeat first|refine zA ?_|refine zB ?_|refine zC ?_|refine zD ?_|refine zE ?_|refine zg ?_|refine zo rfl rfl (by first|exact trivial|(simp only[AllP];omega)|(simp(discharger:=omega)only[AllP,cA,cB];omega)|(simp only[AllP,cC,cD,cE,cF,cG];omega)) ?_|refine zn ?_|refine zb ?_|refine ze rfl ?_|refine zr ?_|refine zk ?_|refine zT rfl rfl rfl ?_|refine zU rfl rfl rfl ?_|refine zV rfl rfl rfl ?_|refine zf rfl ?_|refine zt rfl ?_)
        by_cases hxn : x = n
        · refine r_no rfl (by simp [hxn]) ?_
          (repeat first|refine zA ?_|refine zB ?_|refine zC ?_|refine zD ?_|refine zE ?_|refine zg ?_|refine zo rfl rfl (by first|exact trivial|(simp only[AllP];omega)|(simp(discharger:=omega)only[AllP,cA,cB];omega)|(simp only[AllP,cC,cD,cE,cF,cG];omega)) ?_|refine zn ?_|refine zb ?_|refine ze rfl ?_|refine zr ?_|refine zk ?_|refine zT rfl rfl rfl ?_|refine zU rfl rfl rfl ?_|refine zV rfl rfl rfl ?_|refine zf rfl ?_|refine zt rfl ?_)
          have e1 : withL (l.take (i + 1)) n = out ++ [n] := by
            rw [htk, ho]
            unfold withL
            rw [List.filter_append, List.filter_append, hall, hnone]
            have h1 : [x].filter (fun x => decide (x < n)) = [] := by simp; omega
            have h2 : [x].filter (fun x => decide (n < x)) = [] := by simp; omega
            rw [h1, h2]; simp
          refine ⟨(i + 1, true, out ++ [n], ad4, cap4), ?_, ⟨by simpa [encI] using hp, by dsimp only; omega, fun h => (by cases h), fun _ => ⟨e1.symm, fun y hy => (by have := hafter y hy; omega)⟩⟩, by dsimp only; omega⟩
          dsimp only; rw [List.length_append]; rfl
        · refine r_yes rfl (by simp; omega) ?_
          (repeat first|refine zA ?_|refine zB ?_|refine zC ?_|refine zD ?_|refine zE ?_|refine zg ?_|refine zo rfl rfl (by first|exact trivial|(simp only[AllP];omega)|(simp(discharger:=omega)only[AllP,cA,cB];omega)|(simp only[AllP,cC,cD,cE,cF,cG];omega)) ?_|refine zn ?_|refine zb ?_|refine ze rfl ?_|refine zr ?_|refine zk ?_|refine zT rfl rfl rfl ?_|refine zU rfl rfl rfl ?_|refine zV rfl rfl rfl ?_|refine zf rfl ?_|refine zt rfl ?_)
          refine o_loadc rfl (hcx w4 hp.kp) rfl rfl rfl rfl ?_
          (repeat first|refine zA ?_|refine zB ?_|refine zC ?_|refine zD ?_|refine zE ?_|refine zg ?_|refine zo rfl rfl (by first|exact trivial|(simp only[AllP];omega)|(simp(discharger:=omega)only[AllP,cA,cB];omega)|(simp only[AllP,cC,cD,cE,cF,cG];omega)) ?_|refine zn ?_|refine zb ?_|refine ze rfl ?_|refine zr ?_|refine zk ?_|refine zT rfl rfl rfl ?_|refine zU rfl rfl rfl ?_|refine zV rfl rfl rfl ?_|refine zf rfl ?_|refine zt rfl ?_)
          refine o_buildSlice [I (x : Int)] rfl (by simp [Value.oneCell']) rfl (by decide) (by decide) rfl rfl rfl rfl rfl ?_
          intro b5 w5 hb5 hu5
          have k5 : Kp [] w4 w5 := hu5.kp [] (.inr (by omega))
          refine o_append1 rfl rfl (hp.own.kp k5 (by simp)) hu5.blk rfl rfl rfl rfl (by simp only [maxLen]; omega) (by omega) rfl rfl ?_
          intro ad6 cap6 w6 ho6 k6 hnew6
          (repeat first|refine zA ?_|refine zB ?_|refine zC ?_|refine zD ?_|refine zE ?_|refine zg ?_|refine zo rfl rfl (by first|exact trivial|(simp only[AllP];omega)|(simp(discharger:=omega)only[AllP,cA,cB];omega)|(simp only[AllP,cC,cD,cE,cF,cG];omega)) ?_|refine zn ?_|refine zb ?_|refine ze rfl ?_|refine zr ?_|refine zk ?_|refine zT rfl rfl rfl ?_|refine zU rfl rfl rfl ?_|refine zV rfl rfl rfl ?_|refine zf rfl ?_|refine zt rfl ?_)
          have hp6 := hp.push k5 ho6 k6 hnew6
          have e1 : withL (l.take (i + 1)) n = out ++ [n, x] := by
            rw [htk, ho]
            unfold withL
            rw [List.filter_append, List.filter_append, hall, hnone]
            have h1 : [x].filter (fun x => decide (x < n)) = [] := by simp; omega
            have h2 : [x].filter (fun x => decide (n < x)) = [x] := by simp; omega
            rw [h1, h2]; simp
          refine ⟨(i + 1, true, out ++ [n, x], ad6, cap6), ?_, ⟨?_, by dsimp only; omega, fun h => (by cases h), fun _ => ⟨e1.symm, fun y hy => (by have := hafter y hy; omega)⟩⟩, by dsimp only; omega⟩
          · dsimp only; rw [List.length_append]; rfl
          dsimp only
          have e2 : (out ++ [n, x]).length = out.length + 1 + 1 := by simp
          have e3 : (out ++ [n, x]).map encI = out.map encI ++ [I (n : Int)] ++ [I (x : Int)] := by simp [encI]
          rw [e2, e3]; exact hp6
      · (repeat first|refine zA ?_|refine zB ?_|refine zC ?_|refine zD ?_|refine zE ?_|refine zg ?_|refine zo rfl rfl (by first|exact trivial|(simp only[AllP];omega)|(simp(discharger:=omega)only[AllP,cA,cB];omega)|(simp only[AllP,cC,cD,cE,cF,cG];omega)) ?_|refine zn ?_|refine zb ?_|refine ze rfl ?_|refine zr ?_|refine zk ?_|refine zT rfl rfl rfl ?_|refine zU rfl rfl rfl ?_|refine zV rfl rfl rfl ?_|refine zf rfl ?_|refine zt rfl ?_)
        refine o_loadc rfl (hcx w1 hN.kp) rfl rfl rfl rfl ?_
        (repeat first|refine zA ?_|refine zB ?_|refine zC ?_|refine zD ?_|refine zE ?_|refine zg ?_|refine zo rfl rfl (by first|exact trivial|(simp only[AllP];omega)|(simp(discharger:=omega)only[AllP,cA,cB];omega)|(simp only[AllP,cC,cD,cE,cF,cG];omega)) ?_|refine zn ?_|refine zb ?_|refine ze rfl ?_|refine zr ?_|refine zk ?_|refine zT rfl rfl rfl ?_|refine zU rfl rfl rfl ?_|refine zV rfl rfl rfl ?_|refine zf rfl ?_|refine zt rfl ?_)
        refine r_yes rfl (by simp; omega) ?_
        (repeat first|refine zA ?_|refine zB ?_|refine zC ?_|refine zD ?_|refine zE ?_|refine zg ?_|refine zo rfl rfl (by first|exact trivial|(simp only[AllP];omega)|(simp(discharger:=omega)only[AllP,cA,cB];omega)|(simp only[AllP,cC,cD,cE,cF,cG];omega)) ?_|refine zn ?_|refine zb ?_|refine ze rfl ?_|refine zr ?_|refine zk ?_|refine zT rfl rfl rfl ?_|refine zU rfl rfl rfl ?_|refine zV rfl rfl rfl ?_|refine zf rfl ?_|refine zt rfl ?_)
        refine o_loadc rfl (hcx w1 hN.kp) rfl rfl rfl rfl ?_
        (repeat first|refine zA ?_|refine zB ?_|refine zC ?_|refine zD ?_|refine zE ?_|refine zg ?_|refine zo rfl rfl (by first|exact trivial|(simp only[AllP];omega)|(simp(discharger:=omega)only[AllP,cA,cB];omega)|(simp only[AllP,cC,cD,cE,cF,cG];omega)) ?_|refine zn ?_|refine zb ?_|refine ze rfl ?_|refine zr ?_|refine zk ?_|refine zT rfl rfl rfl ?_|refine zU rfl rfl rfl ?_|refine zV rfl rfl rfl ?_|refine zf rfl ?_|refine zt rfl ?_)
        refine o_buildSlice [I (x : Int)] rfl (by simp [Value.oneCell']) rfl (by decide) (by decide) rfl rfl rfl rfl rfl ?_
        intro b3 w3 hb3 hu3
        have k3 : Kp [] w1 w3 := hu3.kp [] (.inr (by omega))
        refine o_append1 rfl rfl (hN.own.kp k3 (by simp)) hu3.blk rfl rfl rfl rfl (by simp only [maxLen]; omega) (by omega) rfl rfl ?_
        intro ad4 cap4 w4 ho4 k4 hnew4
        (repeat first|refine zA ?_|refine zB ?_|refine zC ?_|refine zD ?_|refine zE ?_|refine zg ?_|refine zo rfl rfl (by first|exact trivial|(simp only[AllP];omega)|(simp(discharger:=omega)only[AllP,cA,cB];omega)|(simp only[AllP,cC,cD,cE,cF,cG];omega)) ?_|refine zn ?_|refine zb ?_|refine ze rfl ?_|refine zr ?_|refine zk ?_|refine zT rfl rfl rfl ?_|refine zU rfl rfl rfl ?_|refine zV rfl rfl rfl ?_|refine zf rfl ?_|refine zt rfl ?_)
        have hp := hN.push k3 ho4 k4 hnew4
        refine ⟨(i + 1, false, out ++ [x], ad4, cap4), ?_, ⟨by simpa [encI] using hp, by dsimp only; omega, fun _ => ⟨?_, ?_⟩, fun h => (by cases h)⟩, by dsimp only; omega⟩
        · dsimp only; rw [List.length_append]; rfl
        · dsimp only; rw [htk, ho]
        · dsimp only
          rw [htk]
          intro y hy
          rcases List.mem_append.1 hy with hy | hy
          · exact hd y hy
          · simp at hy; omega
  · have hie : i = l.length := by omega
    subst hie
    rw [List.take_length] at hf ht
    cases dn with
    | true =>
      obtain ⟨ho, _⟩ := ht rfl
      (repeat first|refine zA ?_|refine zB ?_|refine zC ?_|refine zD ?_|refine zE ?_|refine zg ?_|refine zo rfl rfl (by first|exact trivial|(simp only[AllP];omega)|(simp(discharger:=omega)only[AllP,cA,cB];omega)|(simp only[AllP,cC,cD,cE,cF,cG];omega)) ?_|refine zn ?_|refine zb ?_|refine ze rfl ?_|refine zr ?_|refine zk ?_|refine zT rfl rfl rfl ?_|refine zU rfl rfl rfl ?_|refine zV rfl rfl rfl ?_|refine zf rfl ?_|refine zt rfl ?_)
      rw [ho] at hN ⊢
      exact ⟨_, rfl, ad1, cap1, rfl, hN⟩
    | false =>
      obtain ⟨ho, hd⟩ := hf rfl
      (repeat first|refine zA ?_|refine zB ?_|refine zC ?_|refine zD ?_|refine zE ?_|refine zg ?_|refine zo rfl rfl (by first|exact trivial|(simp only[AllP];omega)|(simp(discharger:=omega)only[AllP,cA,cB];omega)|(simp only[AllP,cC,cD,cE,cF,cG];omega)) ?_|refine zn ?_|refine zb ?_|refine ze rfl ?_|refine zr ?_|refine zk ?_|refine zT rfl rfl rfl ?_|refine zU rfl rfl rfl ?_|refine zV rfl rfl rfl ?_|refine zf rfl ?_|refine zt rfl ?_)
      refine o_buildSlice [I (n : Int)] rfl (by simp [Value.oneCell']) rfl (by decide) (by decide) rfl rfl rfl rfl rfl ?_
      intro b3 w3 hb3 hu3
      have k3 : Kp [] w1 w3 := hu3.kp [] (.inr (by omega))
      refine o_append1 rfl rfl (hN.own.kp k3 (by simp)) hu3.blk rfl rfl rfl rfl (by simp only [maxLen]; omega) (by omega) rfl rfl ?_
      intro ad4 cap4 w4 ho4 k4 hnew4
      have hp := hN.push k3 ho4 k4 hnew4
      (repeat first|refine zA ?_|refine zB ?_|refine zC ?_|refine zD ?_|refine zE ?_|refine zg ?_|refine zo rfl rfl (by first|exact trivial|(simp only[AllP];omega)|(simp(discharger:=omega)only[AllP,cA,cB];omega)|(simp only[AllP,cC,cD,cE,cF,cG];omega)) ?_|refine zn ?_|refine zb ?_|refine ze rfl ?_|refine zr ?_|refine zk ?_|refine zT rfl rfl rfl ?_|refine zU rfl rfl rfl ?_|refine zV rfl rfl rfl ?_|refine zf rfl ?_|refine zt rfl ?_)
      have e1 : withL l n = out ++ [n] := by
        rw [ho]
        unfold withL
        rw [List.filter_eq_self.2 fun y hy => by simpa using hd y hy, List.filter_eq_nil_iff.2 fun y hy => by have := hd y hy; simp; omega]
      rw [e1]
      refine ⟨_, rfl, ad4, cap4, by simp, by simpa [encI] using hp⟩
theorem in_ret {ad : Option Addr} {l : List Nat} {c : Nat} {n : Int} (h : ReadS w ad (l.map encI)) (hl : l.length ≤ 16777216) :
    Ret Tryd.prog 75 [.slice ad l.length c, I n] w (fun v w' => v = .bool (decide (0 ≤ n ∧ n.toNat ∈ l)) ∧ w' = w) := by
  refine enter Tryd.call75 Tryd.func75 rfl rfl rfl rfl ?_
  (repeat first|refine zA ?_|refine zB ?_|refine zC ?_|refine zD ?_|refine zE ?_|refine zg ?_|refine zo rfl rfl (by first|exact trivial|(simp only[AllP];omega)|(simp(discharger:=omega)only[AllP,cA,cB];omega)|(simp only[AllP,cC,cD,cE,cF,cG];omega)) ?_|refine zn ?_|refine zb ?_|refine ze rfl ?_|refine zr ?_|refine zk ?_|refine zT rfl rfl rfl ?_|refine zU rfl rfl rfl ?_|refine zV rfl rfl rfl ?_|refine zf rfl ?_|refine zt rfl ?_)
  refine r_loop (α := Nat) [0, 1, 5] (fun i => [.slice ad l.length c, I n, I i]) (fun i w1 => w = w1 ∧ i ≤ l.length ∧ ∀ x ∈ l.take i, (x : Int) ≠ n) (fun i => l.length - i) 0 rfl ⟨rfl, by omega, by simp⟩ ?_
  rintro i e w1 ⟨rfl, hi, hno⟩
  (repeat first|refine zA ?_|refine zB ?_|refine zC ?_|refine zD ?_|refine zE ?_|refine zg ?_|refine zo rfl rfl (by first|exact trivial|(simp only[AllP];omega)|(simp(discharger:=omega)only[AllP,cA,cB];omega)|(simp only[AllP,cC,cD,cE,cF,cG];omega)) ?_|refine zn ?_|refine zb ?_|refine ze rfl ?_|refine zr ?_|refine zk ?_|refine zT rfl rfl rfl ?_|refine zU rfl rfl rfl ?_|refine zV rfl rfl rfl ?_|refine zf rfl ?_|refine zt rfl ?_)
  refine r_if rfl (fun hc => ?_) (fun hc => ?_)
  · have hlt : i < l.length := by omega
    obtain ⟨x, hx⟩ : ∃ x, l[i]? = some x := ⟨_, List.getElem?_eq_getElem hlt⟩
    have htk : l.take (i + 1) = l.take i ++ [x] := by rw [List.take_add_one, hx]; rfl
    obtain ⟨b, o, rfl, hbl, hcell⟩ := h.at_ (by simp; omega)
    (repeat first|refine zA ?_|refine zB ?_|refine zC ?_|refine zD ?_|refine zE ?_|refine zg ?_|refine zo rfl rfl (by first|exact trivial|(simp only[AllP];omega)|(simp(discharger:=omega)only[AllP,cA,cB];omega)|(simp only[AllP,cC,cD,cE,cF,cG];omega)) ?_|refine zn ?_|refine zb ?_|refine ze rfl ?_|refine zr ?_|refine zk ?_|refine zT rfl rfl rfl ?_|refine zU rfl rfl rfl ?_|refine zV rfl rfl rfl ?_|refine zf rfl ?_|refine zt rfl ?_)
    refine o_loadc (v := I (x : Int)) rfl (hcell i _ (by rw [List.getElem?_map, hx]; rfl)) rfl rfl rfl rfl ?_
    (repeat first|refine zA ?_|refine zB ?_|refine zC ?_|refine zD ?_|refine zE ?_|refine zg ?_|refine zo rfl rfl (by first|exact trivial|(simp only[AllP];omega)|(simp(discharger:=omega)only[AllP,cA,cB];omega)|(simp only[AllP,cC,cD,cE,cF,cG];omega)) ?_|refine zn ?_|refine zb ?_|refine ze rfl ?_|refine zr ?_|refine zk ?_|refine zT rfl rfl rfl ?_|refine zU rfl rfl rfl ?_|refine zV rfl rfl rfl ?_|refine zf rfl ?_|refine zt rfl ?_)
    refine r_if (p := (x : Int) = n) rfl (fun he => ?_) (fun he => ?_)
    · (repeat first|refine zA ?_|refine zB ?_|refine zC ?_|refine zD ?_|refine zE ?_|refine zg ?_|refine zo rfl rfl (by first|exact trivial|(simp only[AllP];omega)|(simp(discharger:=omega)only[AllP,cA,cB];omega)|(simp only[AllP,cC,cD,cE,cF,cG];omega)) ?_|refine zn ?_|refine zb ?_|refine ze rfl ?_|refine zr ?_|refine zk ?_|refine zT rfl rfl rfl ?_|refine zU rfl rfl rfl ?_|refine zV rfl rfl rfl ?_|refine zf rfl ?_|refine zt rfl ?_)
      refine ⟨_, rfl, ?_, rfl⟩
      rw [decide_eq_true]
      refine ⟨by omega, ?_⟩
      have : n.toNat = x := by omega
      rw [this]; exact List.mem_of_getElem? hx
    · (repeat first|refine zA ?_|refine zB ?_|refine zC ?_|refine zD ?_|refine zE ?_|refine zg ?_|refine zo rfl rfl (by first|exact trivial|(simp only[AllP];omega)|(simp(discharger:=omega)only[AllP,cA,cB];omega)|(simp only[AllP,cC,cD,cE,cF,cG];omega)) ?_|refine zn ?_|refine zb ?_|refine ze rfl ?_|refine zr ?_|refine zk ?_|refine zT rfl rfl rfl ?_|refine zU rfl rfl rfl ?_|refine zV rfl rfl rfl ?_|refine zf rfl ?_|refine zt rfl ?_)
      refine ⟨i + 1, rfl, ⟨rfl, by omega, fun y hy => ?_⟩, by omega⟩
      rw [htk] at hy
      rcases List.mem_append.1 hy with hy | hy
      · exact hno y hy
      · simp at hy; rw [hy]; exact he
  · have hie : i = l.length := by omega
    subst hie
    rw [List.take_length] at hno
    (repeat first|refine zA ?_|refine zB ?_|refine zC ?_|refine zD ?_|refine zE ?_|refine zg ?_|refine zo rfl rfl (by first|exact trivial|(simp only[AllP];omega)|(simp(discharger:=omega)only[AllP,cA,cB];omega)|(simp only[AllP,cC,cD,cE,cF,cG];omega)) ?_|refine zn ?_|refine zb ?_|refine ze rfl ?_|refine zr ?_|refine zk ?_|refine zT rfl rfl rfl ?_|refine zU rfl rfl rfl ?_|refine zV rfl rfl rfl ?_|refine zf rfl ?_|refine zt rfl ?_)
    refine ⟨_, rfl, ?_, rfl⟩
    rw [decide_eq_false]
    rintro ⟨h1, h2⟩
    exact hno _ h2 (by omega)
theorem refCopy_ret (hT : TabW w) {p : Nat} {l : List Nat} {ad : Option Addr} {cap : Nat} (h : RefAt w p l ad cap) (hl : l.length ≤ 16777216) :
    Ret Tryd.prog 74 [ptr p] w (fun v w' => ∃ p' ad' cap', v = ptr p' ∧ NewRef w p' w' l ad' cap') := by
  refine enter Tryd.call74 Tryd.func74 rfl rfl rfl rfl ?_
  (repeat first|refine zA ?_|refine zB ?_|refine zC ?_|refine zD ?_|refine zE ?_|refine zg ?_|refine zo rfl rfl (by first|exact trivial|(simp only[AllP];omega)|(simp(discharger:=omega)only[AllP,cA,cB];omega)|(simp only[AllP,cC,cD,cE,cF,cG];omega)) ?_|refine zn ?_|refine zb ?_|refine ze rfl ?_|refine zr ?_|refine zk ?_|refine zT rfl rfl rfl ?_|refine zU rfl rfl rfl ?_|refine zV rfl rfl rfl ?_|refine zf rfl ?_|refine zt rfl ?_)
  refine o_load rfl h.hdr rfl rfl rfl rfl rfl ?_
  refine o_appendNil (l.map encI) rfl rfl h.own.read rfl rfl rfl (by simp) (by simp [Value.oneCell', encI]) (by simp only [maxLen]; omega) (by omega) rfl rfl ?_
  intro ad2 cap2 w2 hn
  refine o_build [.slice ad2 l.length cap2] rfl rfl rfl rfl rfl rfl rfl ?_
  refine o_box rfl rfl rfl ?_
  intro p' w3 hp hu
  have hk := hn.kp.size
  have hne : p' ∉ blkOf ad2 := fun hb => by have := hn.own.lt p' hb; omega
  (repeat first|refine zA ?_|refine zB ?_|refine zC ?_|refine zD ?_|refine zE ?_|refine zg ?_|refine zo rfl rfl (by first|exact trivial|(simp only[AllP];omega)|(simp(discharger:=omega)only[AllP,cA,cB];omega)|(simp only[AllP,cC,cD,cE,cF,cG];omega)) ?_|refine zn ?_|refine zb ?_|refine ze rfl ?_|refine zr ?_|refine zk ?_|refine zT rfl rfl rfl ?_|refine zU rfl rfl rfl ?_|refine zV rfl rfl rfl ?_|refine zf rfl ?_|refine zt rfl ?_)
  refine ⟨_, rfl, p', ad2, cap2, rfl, ⟨hu.blk, hn.own.upd hu hne, ?_⟩, hn.kp.trans (hu.kp [] (.inr (by omega))), ?_⟩
  · intro hb
    rcases List.mem_cons.1 hb with hb | hb
    · have := hT.lt; omega
    · exact hn.noth hT hb
  · intro b hb
    rcases List.mem_cons.1 hb with rfl | hb
    · omega
    · exact hn.new b hb
theorem refCopy_nil : Ret Tryd.prog 74 [.pointer none] w (fun v w' => v = .pointer none ∧ w' = w) := by
  refine enter Tryd.call74 Tryd.func74 rfl rfl rfl rfl ?_
  (repeat first|refine zA ?_|refine zB ?_|refine zC ?_|refine zD ?_|refine zE ?_|refine zg ?_|refine zo rfl rfl (by first|exact trivial|(simp only[AllP];omega)|(simp(discharger:=omega)only[AllP,cA,cB];omega)|(simp only[AllP,cC,cD,cE,cF,cG];omega)) ?_|refine zn ?_|refine zb ?_|refine ze rfl ?_|refine zr ?_|refine zk ?_|refine zT rfl rfl rfl ?_|refine zU rfl rfl rfl ?_|refine zV rfl rfl rfl ?_|refine zf rfl ?_|refine zt rfl ?_)
  exact ⟨_, rfl, rfl, rfl⟩
end Go.Vc
