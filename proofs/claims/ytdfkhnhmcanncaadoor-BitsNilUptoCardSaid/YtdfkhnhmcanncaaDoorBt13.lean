/- bits: the document's sets (reference): Of, List, Words; sameWords. -/
import Derived.Test.YtdfkhnhmcanncaaDoorBt12
import Derived.Test.YtdfkhnhmcanncaaDoorVcMx
namespace Go.Vc
open Go Go.Proofs
set_option maxRecDepth 10000
variable {w : World}

/-- a set of the document's at p: its list -/
structure RefAt (w : World) (p : Nat) (l : List Nat) (ad : Option Addr) (cap : Nat) : Prop where
  hdr : Blk w p [.slice ad l.length cap] 106
  own : OwnS w 3 1 ad l.length cap (l.map encI)
  far : 0 ∉ p :: blkOf ad
structure RefTo (w : World) (p : Nat) (ad : Option Addr) (w' : World) (l' : List Nat) (ad' : Option Addr) (cap' : Nat) : Prop where
  at_ : RefAt w' p l' ad' cap'
  kp : Kp (p :: blkOf ad) w w'
  new : ∀ b, b ∈ blkOf ad' → b ∈ blkOf ad ∨ w.heap.size ≤ b
structure NewRef (w : World) (p : Nat) (w' : World) (l : List Nat) (ad : Option Addr) (cap : Nat) : Prop where
  at_ : RefAt w' p l ad cap
  kp : Kp [] w w'
  new : ∀ b, b ∈ p :: blkOf ad → w.heap.size ≤ b
section
variable {p : Nat} {l : List Nat} {ad : Option Addr} {cap : Nat}
theorem RefAt.p_ad (h : RefAt w p l ad cap) : p ∉ blkOf ad := by
  intro hb
  have h1 := h.hdr; have h2 := h.own.2
  cases ad with
  | none => simp [blkOf] at hb
  | some ad =>
    simp [blkOf] at hb; subst hb
    obtain ⟨_, _, _, _, junk, h5, _⟩ := h2
    unfold Blk at h1 h5; rw [h1] at h5; simp at h5
theorem RefAt.kp {w' : World} (h : RefAt w p l ad cap) {S : List Nat} (hk : Kp S w w') (hd : ∀ b, b ∈ p :: blkOf ad → b ∉ S) : RefAt w' p l ad cap :=
  ⟨hk.blk (hd p (by simp)) h.hdr, h.own.kp hk (fun b hb => hd b (by simp [hb])), h.far⟩
theorem RefAt.sm {w' : World} (h : RefAt w p l ad cap) (hs : Sm w w') : RefAt w' p l ad cap := h.kp (hs.kp []) (by simp)
theorem RefAt.lt (h : RefAt w p l ad cap) : ∀ b, b ∈ p :: blkOf ad → b < w.heap.size := by
  intro b hb
  rcases List.mem_cons.1 hb with rfl | hb
  · exact h.hdr.lt
  · exact h.own.lt b hb
theorem RefTo.refl (h : RefAt w p l ad cap) : RefTo w p ad w l ad cap := ⟨h, Kp.refl _ _, fun b hb => .inl hb⟩
theorem RefTo.trans {w1 w2 : World} {l1 l2 : List Nat} {ad1 ad2 : Option Addr} {cap1 cap2 : Nat} (h : RefTo w p ad w1 l1 ad1 cap1) (k : RefTo w1 p ad1 w2 l2 ad2 cap2) : RefTo w p ad w2 l2 ad2 cap2 :=
  ⟨k.at_, h.kp.after k.kp (fun b hb => by
    rcases List.mem_cons.1 hb with rfl | hb
    · exact .inl (by simp)
    · rcases h.new b hb with h1 | h1
      · exact .inl (by simp [h1])
      · exact .inr h1),
   fun b hb => by
    rcases k.new b hb with h1 | h1
    · exact h.new b h1
    · exact .inr (Nat.le_trans h.kp.size h1)⟩
theorem RefTo.sm {w1 w2 : World} {l1 : List Nat} {ad1 : Option Addr} {cap1 : Nat} (h : RefTo w p ad w1 l1 ad1 cap1) (hs : Sm w1 w2) : RefTo w p ad w2 l1 ad1 cap1 :=
  ⟨h.at_.sm hs, h.kp.after (hs.kp []) (by simp), h.new⟩
theorem NewRef.to {w1 w2 : World} {l1 l2 : List Nat} {ad1 ad2 : Option Addr} {cap1 cap2 : Nat} (h : NewRef w p w1 l1 ad1 cap1) (k : RefTo w1 p ad1 w2 l2 ad2 cap2) : NewRef w p w2 l2 ad2 cap2 :=
  ⟨k.at_, h.kp.after k.kp (fun b hb => .inr (h.new b hb)), fun b hb => by
    rcases List.mem_cons.1 hb with rfl | hb
    · exact h.new _ (by simp)
    · rcases k.new b hb with h1 | h1
      · exact h.new b (by simp [h1])
      · exact Nat.le_trans h.kp.size h1⟩
/-- a new block that holds an empty list -/
theorem newRef_box {w1 : World} (hT : TabW w) (hp : p = w.heap.size) (hu : Upd w p (.cells ⟨[.slice none 0 0]⟩ 106 (0, 0)) w1) : NewRef w p w1 [] none 0 :=
  ⟨⟨hu.blk, ownS_nil _ _ _, by simp [blkOf]; have := hT.lt; omega⟩, hu.kp [] (.inr (by omega)), by simp [blkOf]; omega⟩
/-- a longer list is laid into the block -/
theorem RefAt.put {w1 w2 w3 : World} {l' : List Nat} {ad' : Option Addr} {cap' : Nat} (h : RefAt w p l ad cap) (hT : TabW w) (k1 : Kp [] w w1)
    (ho2 : OwnS w2 3 1 ad' l'.length cap' (l'.map encI)) (kp2 : Kp (blkOf ad) w1 w2) (hnew : ∀ b, b ∈ blkOf ad' → b ∈ blkOf ad ∨ w1.heap.size ≤ b)
    (hu3 : Upd w2 p (.cells ⟨[.slice ad' l'.length cap']⟩ 106 (0, 0)) w3) : RefTo w p ad w3 l' ad' cap' := by
  have hp := h.hdr.lt
  have hk := k1.size
  have hpad' : p ∉ blkOf ad' := fun hb => by
    rcases hnew p hb with h1 | h1
    · exact h.p_ad h1
    · omega
  refine ⟨⟨hu3.blk, ho2.upd hu3 hpad', ?_⟩, ?_, ?_⟩
  · intro hb
    rcases List.mem_cons.1 hb with hb | hb
    · exact h.far (by rw [hb]; simp)
    · rcases hnew _ hb with h1 | h1
      · exact h.far (by simp [h1])
      · have := hT.lt; omega
  · refine ((k1.mono (S' := p :: blkOf ad) (by simp)).after kp2 (fun b hb => .inl (by simp [hb]))).after (hu3.kp [p] (.inl (by simp))) (fun b hb => .inl (by simp at hb; simp [hb]))
  · intro b hb
    rcases hnew b hb with h1 | h1
    · exact .inl h1
    · exact .inr (by omega)
end

/-- the numbers below m -/
def elemsTo (ws : List Nat) (m : Nat) : List Nat := (List.range m).filter (bit ws)
theorem elemsTo_succ (ws : List Nat) (m : Nat) : elemsTo ws (m + 1) = elemsTo ws m ++ if bit ws m then [m] else [] := by
  unfold elemsTo
  rw [List.range_succ, List.filter_append]
  congr 1
  simp [List.filter_cons]
theorem elemsTo_all (ws : List Nat) : elemsTo ws (64 * ws.length) = elems ws := rfl
theorem elemsTo_len (ws : List Nat) (m : Nat) : (elemsTo ws m).length ≤ m := by
  have := List.length_filter_le (bit ws) (List.range m)
  simpa [elemsTo] using this
def Big (ws : List Nat) : Prop := ∃ k, 1048576 ≤ k ∧ bit ws k = true

theorem shr_mod2 (x k : Nat) : (x >>> k) % 2 = 1 ↔ x.testBit k = true := by
  rw [Nat.testBit_eq_decide_div_mod_eq, Nat.shiftRight_eq_div_pow]; simp
theorem refOf_ret (hT : TabW w) {ad : Option Addr} {ws : List Nat} {cap : Nat} (h : RdW w ad ws) (hl : ws.length ≤ 1048576) :
    Ret Tryd.prog 21 [.slice ad ws.length cap] w (fun v w' => (¬ Big ws ∧ ∃ p ad' cap', v = .tuple #[ptr p, I 0] ∧ NewRef w p w' (elems ws) ad' cap') ∨ (Big ws ∧ v = .tuple #[.pointer none, I 2] ∧ Kp [] w w')) := by
  refine enter Tryd.call21 Tryd.func21 rfl rfl rfl rfl ?_
  (repeat first|refine zA ?_|refine zB ?_|refine zC ?_|refine zD ?_|refine zE ?_|refine zg ?_|refine zo rfl rfl (by first|exact trivial|(simp only[AllP];omega)|(simp(discharger:=omega)only[AllP,cA,cB];omega)|(simp only[AllP,cC,cD,cE,cF,cG];omega)) ?_|refine zn ?_|refine zb ?_|refine ze rfl ?_|refine zr ?_|refine zk ?_|refine zT rfl rfl rfl ?_|refine zU rfl rfl rfl ?_|refine zV rfl rfl rfl ?_|refine zf rfl ?_|refine zt rfl ?_)
  refine o_build [.slice none 0 0] rfl rfl rfl rfl rfl rfl rfl ?_
  refine o_box rfl rfl rfl ?_
  intro p w1 hp hu1
  have hn1 := newRef_box hT hp hu1
  (repeat first|refine zA ?_|refine zB ?_|refine zC ?_|refine zD ?_|refine zE ?_|refine zg ?_|refine zo rfl rfl (by first|exact trivial|(simp only[AllP];omega)|(simp(discharger:=omega)only[AllP,cA,cB];omega)|(simp only[AllP,cC,cD,cE,cF,cG];omega)) ?_|refine zn ?_|refine zb ?_|refine ze rfl ?_|refine zr ?_|refine zk ?_|refine zT rfl rfl rfl ?_|refine zU rfl rfl rfl ?_|refine zV rfl rfl rfl ?_|refine zf rfl ?_|refine zt rfl ?_)
  refine r_loop (α := Nat × Option Addr × Nat) [0, 4, 5] (fun g => [.slice ad ws.length cap, ptr p, I g.1]) (fun g w2 => NewRef w p w2 (elemsTo ws (64 * g.1)) g.2.1 g.2.2 ∧ g.1 ≤ ws.length ∧ ∀ k, 1048576 ≤ k → k < 64 * g.1 → bit ws k = false) (fun g => ws.length - g.1) (0, none, 0) rfl ⟨hn1, by omega, fun k h1 h2 => by omega⟩ ?_
  rintro ⟨i, ad1, cap1⟩ e w2 ⟨hns, hi, hno⟩
  dsimp only at hns hi hno ⊢
  (repeat first|refine zA ?_|refine zB ?_|refine zC ?_|refine zD ?_|refine zE ?_|refine zg ?_|refine zo rfl rfl (by first|exact trivial|(simp only[AllP];omega)|(simp(discharger:=omega)only[AllP,cA,cB];omega)|(simp only[AllP,cC,cD,cE,cF,cG];omega)) ?_|refine zn ?_|refine zb ?_|refine ze rfl ?_|refine zr ?_|refine zk ?_|refine zT rfl rfl rfl ?_|refine zU rfl rfl rfl ?_|refine zV rfl rfl rfl ?_|refine zf rfl ?_|refine zt rfl ?_)
  refine r_if rfl (fun hc => ?_) (fun hc => ?_)
  rotate_left
  · have : i = ws.length := by omega
    subst this
    (repeat first|refine zA ?_|refine zB ?_|refine zC ?_|refine zD ?_|refine zE ?_|refine zg ?_|refine zo rfl rfl (by first|exact trivial|(simp only[AllP];omega)|(simp(discharger:=omega)only[AllP,cA,cB];omega)|(simp only[AllP,cC,cD,cE,cF,cG];omega)) ?_|refine zn ?_|refine zb ?_|refine ze rfl ?_|refine zr ?_|refine zk ?_|refine zT rfl rfl rfl ?_|refine zU rfl rfl rfl ?_|refine zV rfl rfl rfl ?_|refine zf rfl ?_|refine zt rfl ?_)
    refine ⟨_, rfl, .inl ⟨?_, p, ad1, cap1, rfl, hns⟩⟩
    rintro ⟨k, h1, h2⟩
    have := hno k h1 (bit_lt h2)
    rw [h2] at this; cases this
  have hlt : i < ws.length := by omega
  obtain ⟨b, off, rfl, hb, hcell⟩ := h.read.at_ (by simp; omega)
  have hci : w2.cell? ⟨b, off + i, none⟩ = some (U (ws.getD i 0)) := by
    rw [← hcell i (U (ws.getD i 0)) (by simp [List.getD_eq_getElem?_getD, hlt])]
    exact World.cell?_of_block (hns.kp.at_ b hb (by simp))
  (repeat first|refine zA ?_|refine zB ?_|refine zC ?_|refine zD ?_|refine zE ?_|refine zg ?_|refine zo rfl rfl (by first|exact trivial|(simp only[AllP];omega)|(simp(discharger:=omega)only[AllP,cA,cB];omega)|(simp only[AllP,cC,cD,cE,cF,cG];omega)) ?_|refine zn ?_|refine zb ?_|refine ze rfl ?_|refine zr ?_|refine zk ?_|refine zT rfl rfl rfl ?_|refine zU rfl rfl rfl ?_|refine zV rfl rfl rfl ?_|refine zf rfl ?_|refine zt rfl ?_)
  refine o_loadc rfl hci rfl rfl rfl rfl ?_
  (repeat first|refine zA ?_|refine zB ?_|refine zC ?_|refine zD ?_|refine zE ?_|refine zg ?_|refine zo rfl rfl (by first|exact trivial|(simp only[AllP];omega)|(simp(discharger:=omega)only[AllP,cA,cB];omega)|(simp only[AllP,cC,cD,cE,cF,cG];omega)) ?_|refine zn ?_|refine zb ?_|refine ze rfl ?_|refine zr ?_|refine zk ?_|refine zT rfl rfl rfl ?_|refine zU rfl rfl rfl ?_|refine zV rfl rfl rfl ?_|refine zf rfl ?_|refine zt rfl ?_)
  have hx : ws.getD i 0 < 2 ^ 64 := h.ok.getD i
  have hxb : ∀ k, k < 64 → bit ws (64 * i + k) = (ws.getD i 0).testBit k := fun k hk => by
    unfold bit
    have h1 : (64 * i + k) / 64 = i := by omega
    have h2 : (64 * i + k) % 64 = k := by omega
    rw [h1, h2]
  generalize ws.getD i 0 = x at hx hxb
  refine r_loop (α := Nat × Option Addr × Nat) [0, 4, 5, 6, 7] (fun g => [.slice (some ⟨b, off, none⟩) ws.length cap, ptr p, I i, U (x >>> g.1), I g.1]) (fun g w3 => NewRef w p w3 (elemsTo ws (64 * i + g.1)) g.2.1 g.2.2 ∧ g.1 ≤ 64 ∧ ∀ k, 1048576 ≤ k → k < 64 * i + g.1 → bit ws k = false) (fun g => 64 - g.1) (0, ad1, cap1) rfl ⟨hns, by omega, fun k h1 h2 => hno k h1 (by omega)⟩ ?_
  rintro ⟨k, ad2, cap2⟩ e w3 ⟨hns2, hk, hno2⟩
  dsimp only at hns2 hk hno2 ⊢
  (repeat first|refine zA ?_|refine zB ?_|refine zC ?_|refine zD ?_|refine zE ?_|refine zg ?_|refine zo rfl rfl (by first|exact trivial|(simp only[AllP];omega)|(simp(discharger:=omega)only[AllP,cA,cB];omega)|(simp only[AllP,cC,cD,cE,cF,cG];omega)) ?_|refine zn ?_|refine zb ?_|refine ze rfl ?_|refine zr ?_|refine zk ?_|refine zT rfl rfl rfl ?_|refine zU rfl rfl rfl ?_|refine zV rfl rfl rfl ?_|refine zf rfl ?_|refine zt rfl ?_)
  refine r_if rfl (fun hc2 => ?_) (fun hc2 => ?_)
  rotate_left
  · have : k = 64 := by omega
    subst this
    (repeat first|refine zA ?_|refine zB ?_|refine zC ?_|refine zD ?_|refine zE ?_|refine zg ?_|refine zo rfl rfl (by first|exact trivial|(simp only[AllP];omega)|(simp(discharger:=omega)only[AllP,cA,cB];omega)|(simp only[AllP,cC,cD,cE,cF,cG];omega)) ?_|refine zn ?_|refine zb ?_|refine ze rfl ?_|refine zr ?_|refine zk ?_|refine zT rfl rfl rfl ?_|refine zU rfl rfl rfl ?_|refine zV rfl rfl rfl ?_|refine zf rfl ?_|refine zt rfl ?_)
    exact ⟨(i + 1, ad2, cap2), rfl, ⟨hns2, by dsimp only; omega, hno2⟩, by dsimp only; omega⟩
  have hk64 : k < 64 := by omega
  have hsx : x >>> k < 2 ^ 64 := Nat.lt_of_le_of_lt (by rw [Nat.shiftRight_eq_div_pow]; exact Nat.div_le_self _ _) hx
  have htm : Int.tmod ((x >>> k : Nat) : Int) 2 = (((x >>> k) % 2 : Nat) : Int) := by
    rw [Int.tmod_eq_emod_of_nonneg (Int.natCast_nonneg _)]; rfl
  have hnext : IntKind.u64.wrap (Int.tdiv ((x >>> k : Nat) : Int) 2) = ((x >>> (k + 1) : Nat) : Int) := by
    rw [Int.tdiv_eq_ediv_of_nonneg (Int.natCast_nonneg _), wrapU, Nat.shiftRight_succ]
    generalize x >>> k = y at hsx
    omega
  have hb01 : (Int.tmod ((x >>> k : Nat) : Int) 2 = 1) ↔ x.testBit k = true := by
    rw [htm, ← shr_mod2]
    generalize x >>> k = y
    omega
  (repeat first|refine zA ?_|refine zB ?_|refine zC ?_|refine zD ?_|refine zE ?_|refine zg ?_|refine zo rfl rfl (by first|exact trivial|(simp only[AllP];omega)|(simp(discharger:=omega)only[AllP,cA,cB];omega)|(simp only[AllP,cC,cD,cE,cF,cG];omega)) ?_|refine zn ?_|refine zb ?_|refine ze rfl ?_|refine zr ?_|refine zk ?_|refine zT rfl rfl rfl ?_|refine zU rfl rfl rfl ?_|refine zV rfl rfl rfl ?_|refine zf rfl ?_|refine zt rfl ?_)
  refine r_if (p := Int.tmod ((x >>> k : Nat) : Int) 2 = 1) rfl (fun hb1 => ?_) (fun hb1 => ?_)
  · have hbit : bit ws (64 * i + k) = true := by rw [hxb k hk64]; exact hb01.1 hb1
    have hes := elemsTo_succ ws (64 * i + k)
    rw [hbit, if_pos rfl] at hes
    (repeat first|refine zA ?_|refine zB ?_|refine zC ?_|refine zD ?_|refine zE ?_|refine zg ?_|refine zo rfl rfl (by first|exact trivial|(simp only[AllP];omega)|(simp(discharger:=omega)only[AllP,cA,cB];omega)|(simp only[AllP,cC,cD,cE,cF,cG];omega)) ?_|refine zn ?_|refine zb ?_|refine ze rfl ?_|refine zr ?_|refine zk ?_|refine zT rfl rfl rfl ?_|refine zU rfl rfl rfl ?_|refine zV rfl rfl rfl ?_|refine zf rfl ?_|refine zt rfl ?_)
    refine r_if rfl (fun hc3 => ?_) (fun hc3 => ?_)
    · (repeat first|refine zA ?_|refine zB ?_|refine zC ?_|refine zD ?_|refine zE ?_|refine zg ?_|refine zo rfl rfl (by first|exact trivial|(simp only[AllP];omega)|(simp(discharger:=omega)only[AllP,cA,cB];omega)|(simp only[AllP,cC,cD,cE,cF,cG];omega)) ?_|refine zn ?_|refine zb ?_|refine ze rfl ?_|refine zr ?_|refine zk ?_|refine zT rfl rfl rfl ?_|refine zU rfl rfl rfl ?_|refine zV rfl rfl rfl ?_|refine zf rfl ?_|refine zt rfl ?_)
      exact ⟨_, rfl, .inr ⟨⟨_, by omega, hbit⟩, rfl, hns2.kp⟩⟩
    · have h2 := hns2.at_
      have hT3 := hT.kp hns2.kp (by simp)
      have hlen := elemsTo_len ws (64 * i + k)
      (repeat first|refine zA ?_|refine zB ?_|refine zC ?_|refine zD ?_|refine zE ?_|refine zg ?_|refine zo rfl rfl (by first|exact trivial|(simp only[AllP];omega)|(simp(discharger:=omega)only[AllP,cA,cB];omega)|(simp only[AllP,cC,cD,cE,cF,cG];omega)) ?_|refine zn ?_|refine zb ?_|refine ze rfl ?_|refine zr ?_|refine zk ?_|refine zT rfl rfl rfl ?_|refine zU rfl rfl rfl ?_|refine zV rfl rfl rfl ?_|refine zf rfl ?_|refine zt rfl ?_)
      refine o_load rfl h2.hdr rfl rfl rfl rfl rfl ?_
      (repeat first|refine zA ?_|refine zB ?_|refine zC ?_|refine zD ?_|refine zE ?_|refine zg ?_|refine zo rfl rfl (by first|exact trivial|(simp only[AllP];omega)|(simp(discharger:=omega)only[AllP,cA,cB];omega)|(simp only[AllP,cC,cD,cE,cF,cG];omega)) ?_|refine zn ?_|refine zb ?_|refine ze rfl ?_|refine zr ?_|refine zk ?_|refine zT rfl rfl rfl ?_|refine zU rfl rfl rfl ?_|refine zV rfl rfl rfl ?_|refine zf rfl ?_|refine zt rfl ?_)
      refine o_buildSlice [I ((64 * i + k : Nat) : Int)] rfl (by simp [Value.oneCell']) rfl (by decide) (by decide) rfl rfl rfl rfl rfl ?_
      intro b1 w4 hb1 hu4
      have k4 : Kp [] w3 w4 := hu4.kp [] (.inr (by omega))
      refine o_append1 rfl rfl (h2.own.kp k4 (by simp)) hu4.blk rfl rfl rfl rfl (by simp only [maxLen]; omega) (by omega) rfl rfl ?_
      intro ad5 cap5 w5 ho5 k5 hnew5
      have hH5 := k5.blk h2.p_ad (k4.blk (by simp) h2.hdr)
      (repeat first|refine zA ?_|refine zB ?_|refine zC ?_|refine zD ?_|refine zE ?_|refine zg ?_|refine zo rfl rfl (by first|exact trivial|(simp only[AllP];omega)|(simp(discharger:=omega)only[AllP,cA,cB];omega)|(simp only[AllP,cC,cD,cE,cF,cG];omega)) ?_|refine zn ?_|refine zb ?_|refine ze rfl ?_|refine zr ?_|refine zk ?_|refine zT rfl rfl rfl ?_|refine zU rfl rfl rfl ?_|refine zV rfl rfl rfl ?_|refine zf rfl ?_|refine zt rfl ?_)
      refine o_store rfl hH5 (by simp) rfl rfl rfl rfl rfl rfl ?_
      intro w6 hu6
      have hput : RefTo w3 p ad2 w6 (elemsTo ws (64 * i + (k + 1))) ad5 cap5 := by
        have e1 : elemsTo ws (64 * i + (k + 1)) = elemsTo ws (64 * i + k) ++ [64 * i + k] := hes
        refine h2.put hT3 k4 ?_ k5 hnew5 ?_
        · rw [e1, List.length_append, List.map_append]; exact ho5
        · rw [e1, List.length_append]; exact hu6
      (repeat first|refine zA ?_|refine zB ?_|refine zC ?_|refine zD ?_|refine zE ?_|refine zg ?_|refine zo rfl rfl (by first|exact trivial|(simp only[AllP];omega)|(simp(discharger:=omega)only[AllP,cA,cB];omega)|(simp only[AllP,cC,cD,cE,cF,cG];omega)) ?_|refine zn ?_|refine zb ?_|refine ze rfl ?_|refine zr ?_|refine zk ?_|refine zT rfl rfl rfl ?_|refine zU rfl rfl rfl ?_|refine zV rfl rfl rfl ?_|refine zf rfl ?_|refine zt rfl ?_)
      refine ⟨(k + 1, ad5, cap5), ?_, ⟨hns2.to hput, by dsimp only; omega, fun k' h1 h2 => ?_⟩, by dsimp only; omega⟩
      · exact congrArg (fun z => [.slice (some ⟨b, off, none⟩) ws.length cap, ptr p, I i, Value.int .u64 z, I ((k : Int) + 1)]) hnext
      · exact hno2 k' h1 (by dsimp only at h2; omega)
  · have hbit : bit ws (64 * i + k) = false := by
      rw [hxb k hk64]
      cases hh : x.testBit k with
      | false => rfl
      | true => exact absurd (hb01.2 hh) hb1
    have hes := elemsTo_succ ws (64 * i + k)
    rw [hbit, if_neg (by simp), List.append_nil] at hes
    (repeat first|refine zA ?_|refine zB ?_|refine zC ?_|refine zD ?_|refine zE ?_|refine zg ?_|refine zo rfl rfl (by first|exact trivial|(simp only[AllP];omega)|(simp(discharger:=omega)only[AllP,cA,cB];omega)|(simp only[AllP,cC,cD,cE,cF,cG];omega)) ?_|refine zn ?_|refine zb ?_|refine ze rfl ?_|refine zr ?_|refine zk ?_|refine zT rfl rfl rfl ?_|refine zU rfl rfl rfl ?_|refine zV rfl rfl rfl ?_|refine zf rfl ?_|refine zt rfl ?_)
    refine ⟨(k + 1, ad2, cap2), ?_, ⟨?_, by dsimp only; omega, fun k' h1 h2 => ?_⟩, by dsimp only; omega⟩
    · exact congrArg (fun z => [.slice (some ⟨b, off, none⟩) ws.length cap, ptr p, I i, Value.int .u64 z, I ((k : Int) + 1)]) hnext
    · have e1 : elemsTo ws (64 * i + (k + 1)) = elemsTo ws (64 * i + k) := hes
      dsimp only; rw [e1]; exact hns2
    · dsimp only at h2
      by_cases hkk : k' < 64 * i + k
      · exact hno2 k' h1 hkk
      · have : k' = 64 * i + k := by omega
        rw [this]; exact hbit

theorem refList_ret {p : Nat} {l : List Nat} {ad : Option Addr} {cap : Nat} (h : RefAt w p l ad cap) (hl : l.length ≤ 16777216) :
    Ret Tryd.prog 26 [ptr p] w (fun v w' => ∃ ad' cap', v = .slice ad' l.length cap' ∧ NewS w 3 w' ad' l.length cap' (l.map encI)) := by
  refine enter Tryd.call26 Tryd.func26 rfl rfl rfl rfl ?_
  (repeat first|refine zA ?_|refine zB ?_|refine zC ?_|refine zD ?_|refine zE ?_|refine zg ?_|refine zo rfl rfl (by first|exact trivial|(simp only[AllP];omega)|(simp(discharger:=omega)only[AllP,cA,cB];omega)|(simp only[AllP,cC,cD,cE,cF,cG];omega)) ?_|refine zn ?_|refine zb ?_|refine ze rfl ?_|refine zr ?_|refine zk ?_|refine zT rfl rfl rfl ?_|refine zU rfl rfl rfl ?_|refine zV rfl rfl rfl ?_|refine zf rfl ?_|refine zt rfl ?_)
  refine o_load rfl h.hdr rfl rfl rfl rfl rfl ?_
  by_cases h0 : l.length = 0
  · have hl0 : l = [] := List.eq_nil_of_length_eq_zero h0
    subst hl0
    refine o_append0 (ad := none) (k := 0) (cap := 0) (ay := ad) (cy := cap) rfl rfl (Nat.le_refl _) rfl rfl rfl rfl ?_
    (repeat first|refine zA ?_|refine zB ?_|refine zC ?_|refine zD ?_|refine zE ?_|refine zg ?_|refine zo rfl rfl (by first|exact trivial|(simp only[AllP];omega)|(simp(discharger:=omega)only[AllP,cA,cB];omega)|(simp only[AllP,cC,cD,cE,cF,cG];omega)) ?_|refine zn ?_|refine zb ?_|refine ze rfl ?_|refine zr ?_|refine zk ?_|refine zT rfl rfl rfl ?_|refine zU rfl rfl rfl ?_|refine zV rfl rfl rfl ?_|refine zf rfl ?_|refine zt rfl ?_)
    exact ⟨_, rfl, none, 0, rfl, ⟨ownS_nil _ _ _, Kp.refl _ _, by simp [blkOf]⟩⟩
  · obtain ⟨b, off, rfl, hb, hcell⟩ := h.own.read.at_ (by simp; omega)
    refine o_append (ad := none) (k := 0) (cap := 0) (l.map encI) rfl rfl (ownS_nil _ _ _) (fun j v hv => ?_) rfl rfl rfl (by omega) (by simp) (by omega) (by simp [Value.oneCell', encI]) (by simp only [maxLen]; omega) (by omega) rfl rfl ?_
    · rw [addr_lit]; exact hcell j v hv
    intro ad2 cap2 w2 ho2 k2 hnew
    (repeat first|refine zA ?_|refine zB ?_|refine zC ?_|refine zD ?_|refine zE ?_|refine zg ?_|refine zo rfl rfl (by first|exact trivial|(simp only[AllP];omega)|(simp(discharger:=omega)only[AllP,cA,cB];omega)|(simp only[AllP,cC,cD,cE,cF,cG];omega)) ?_|refine zn ?_|refine zb ?_|refine ze rfl ?_|refine zr ?_|refine zk ?_|refine zT rfl rfl rfl ?_|refine zU rfl rfl rfl ?_|refine zV rfl rfl rfl ?_|refine zf rfl ?_|refine zt rfl ?_)
    rw [Nat.zero_add] at ho2
    refine ⟨_, rfl, ad2, cap2, by rw [Nat.zero_add], ⟨ho2, k2, fun c hc => ?_⟩⟩
    rcases hnew c hc with h1 | h1
    · simp [blkOf] at h1
    · exact h1
theorem refList_nil : Ret Tryd.prog 26 [.pointer none] w (fun v w' => v = .slice none 0 0 ∧ w' = w) := by
  refine enter Tryd.call26 Tryd.func26 rfl rfl rfl rfl ?_
  (repeat first|refine zA ?_|refine zB ?_|refine zC ?_|refine zD ?_|refine zE ?_|refine zg ?_|refine zo rfl rfl (by first|exact trivial|(simp only[AllP];omega)|(simp(discharger:=omega)only[AllP,cA,cB];omega)|(simp only[AllP,cC,cD,cE,cF,cG];omega)) ?_|refine zn ?_|refine zb ?_|refine ze rfl ?_|refine zr ?_|refine zk ?_|refine zT rfl rfl rfl ?_|refine zU rfl rfl rfl ?_|refine zV rfl rfl rfl ?_|refine zf rfl ?_|refine zt rfl ?_)
  exact ⟨_, rfl, rfl, rfl⟩
end Go.Vc
