/- bits: BitsCloses. -/
import Derived.Test.YtdfkhnhmcanncaaDoorBt24
namespace Go.Vc
open Go Go.Proofs
set_option maxRecDepth 10000
variable {w : World}

theorem linked_q {p n : Nat} {bs : List Nat} {M : List (List Nat)} {ad : Option Addr} {cap : Nat} (h : RelAt w p n bs M ad cap) (i j : Int) {b : Bool} (hb : linkedB n M i j = b) : ∀ w1, Sm w w1 → Ret Tryd.prog 32 [ptr p, I i, I j] w1 (fun v' w' => v' = .bool b ∧ Sm w w') :=
  fun w1 hs => (Linked_ret (h.sm hs) i j).mono fun v w' ⟨h1, h2⟩ => ⟨by rw [h1, hb], by rw [h2]; exact hs⟩
theorem linkedB_nat {n i j : Nat} {M : List (List Nat)} (hi : i < n) (hj : j < n) : linkedB n M (i : Int) (j : Int) = bitM M i j := by
  unfold linkedB nodeB
  simp; omega
/-- what the first loop keeps -/
structure ClI (w0 : World) (p n : Nat) (bs : List Nat) (adr : Option Addr) (capr bw : Nat) (wc : World) (i : Nat) (M Ws : List (List Nat)) (As : List (Option Addr × Nat)) : Prop where
  rel : NewRel w0 p n wc bs M adr capr
  inb : InB n M
  was : WasAt wc bw n As Ws
  new : ∀ b, b ∈ wasBlks bw n As → w0.heap.size ≤ b
  bits : ∀ a b, a < n → (bitM M a b = true ↔ b ∈ Ws.getD a [])
  few : ∀ a, (Ws.getD a []).length ≤ i

set_option maxHeartbeats 8000000 in
theorem BitsCloses_ret (hT : TabW w) {size : Int} (hsz : -9223372036854775808 ≤ size ∧ size ≤ 9223372036854775807) {ad : Option Addr} {es : List (Int × Int × Int)} {c : Nat} (h : ReadS w ad (edgeV es)) (hl : es.length ≤ 1048576)
    (hrng : ∀ e ∈ es, (-9223372036854775808 ≤ e.2.1 ∧ e.2.1 ≤ 9223372036854775807) ∧ (-9223372036854775808 ≤ e.2.2 ∧ e.2.2 ≤ 9223372036854775807)) :
    Ret Tryd.prog 5 [I size, .slice ad es.length c] w (fun v w' => v = .bool true ∧ Kp [] w w') := by
  have tb : -48 < Int.tmod size 48 ∧ Int.tmod size 48 < 48 := by
    have h1 := Int.tmod_lt_of_pos size (b := 48) (by omega)
    have h2 := Int.tmod_lt_of_pos (-size) (b := 48) (by omega)
    rw [Int.neg_tmod] at h2
    omega
  obtain ⟨n, hn, hn48⟩ : ∃ n : Nat, Int.tmod (Int.tmod size 48 + 48) 48 = (n : Int) ∧ n < 48 := by
    have h1 : Int.tmod (Int.tmod size 48 + 48) 48 = (Int.tmod size 48 + 48) % 48 := Int.tmod_eq_emod_of_nonneg (by omega)
    exact ⟨((Int.tmod size 48 + 48) % 48).toNat, by rw [h1]; omega, by omega⟩
  refine enter Tryd.call5 Tryd.func5 rfl rfl rfl rfl ?_
  (repeat first|refine zA ?_|refine zB ?_|refine zC ?_|refine zD ?_|refine zE ?_|refine zg ?_|refine zo rfl rfl (by first|exact trivial|(simp only[AllP];omega)|(simp(discharger:=omega)only[AllP,cA,cB];omega)|(simp only[AllP,cC,cD,cE,cF,cG];omega)) ?_|refine zn ?_|refine zb ?_|refine ze rfl ?_|refine zr ?_|refine zk ?_|refine zT rfl rfl rfl ?_|refine zU rfl rfl rfl ?_|refine zV rfl rfl rfl ?_|refine zf rfl ?_|refine zt rfl ?_)
  refine o_call (lives_ret hT) rfl rfl rfl ?_
  rintro v w1 ⟨rfl, k1⟩
  have hT1 := hT.kp k1 (by simp)
  (repeat first|refine zA ?_|refine zB ?_|refine zC ?_|refine zD ?_|refine zE ?_|refine zg ?_|refine zo rfl rfl (by first|exact trivial|(simp only[AllP];omega)|(simp(discharger:=omega)only[AllP,cA,cB];omega)|(simp only[AllP,cC,cD,cE,cF,cG];omega)) ?_|refine zn ?_|refine zb ?_|refine ze rfl ?_|refine zr ?_|refine zk ?_|refine zT rfl rfl rfl ?_|refine zU rfl rfl rfl ?_|refine zV rfl rfl rfl ?_|refine zf rfl ?_|refine zt rfl ?_)
  rw [hn]
  refine o_call (NewRelation_ret hT1 (n := n) (by omega)) rfl rfl rfl ?_
  rintro v w2 ⟨p, bs, adr, capr, rfl, hr2⟩
  (repeat first|refine zA ?_|refine zB ?_|refine zC ?_|refine zD ?_|refine zE ?_|refine zg ?_|refine zo rfl rfl (by first|exact trivial|(simp only[AllP];omega)|(simp(discharger:=omega)only[AllP,cA,cB];omega)|(simp only[AllP,cC,cD,cE,cF,cG];omega)) ?_|refine zn ?_|refine zb ?_|refine ze rfl ?_|refine zr ?_|refine zk ?_|refine zT rfl rfl rfl ?_|refine zU rfl rfl rfl ?_|refine zV rfl rfl rfl ?_|refine zf rfl ?_|refine zt rfl ?_)
  refine o_call (Size_ret hr2.at_) rfl rfl rfl ?_
  rintro v w3 ⟨rfl, rfl⟩
  (repeat first|refine zA ?_|refine zB ?_|refine zC ?_|refine zD ?_|refine zE ?_|refine zg ?_|refine zo rfl rfl (by first|exact trivial|(simp only[AllP];omega)|(simp(discharger:=omega)only[AllP,cA,cB];omega)|(simp only[AllP,cC,cD,cE,cF,cG];omega)) ?_|refine zn ?_|refine zb ?_|refine ze rfl ?_|refine zr ?_|refine zk ?_|refine zT rfl rfl rfl ?_|refine zU rfl rfl rfl ?_|refine zV rfl rfl rfl ?_|refine zf rfl ?_|refine zt rfl ?_)
  refine r_no rfl (by simp) ?_
  (repeat first|refine zA ?_|refine zB ?_|refine zC ?_|refine zD ?_|refine zE ?_|refine zg ?_|refine zo rfl rfl (by first|exact trivial|(simp only[AllP];omega)|(simp(discharger:=omega)only[AllP,cA,cB];omega)|(simp only[AllP,cC,cD,cE,cF,cG];omega)) ?_|refine zn ?_|refine zb ?_|refine ze rfl ?_|refine zr ?_|refine zk ?_|refine zT rfl rfl rfl ?_|refine zU rfl rfl rfl ?_|refine zV rfl rfl rfl ?_|refine zf rfl ?_|refine zt rfl ?_)
  refine o_make (len := (n : Int)) (cap := (n : Int)) (kl := .i64) (kc := .i64) rfl rfl rfl rfl rfl (by omega) (by omega) (by omega) (by omega) rfl rfl ?_
  intro bw w4 hbw hu4
  rw [Int.toNat_natCast] at hu4 ⊢
  have k4 : Kp [] w3 w4 := hu4.kp [] (.inr (by omega))
  have hs3 := hr2.kp.size
  have gnone : ∀ i, (List.replicate n ((none : Option Addr), 0)).getD i (none, 0) = (none, 0) := fun i => by
    rw [List.getD_eq_getElem?_getD, List.getElem?_replicate]; split <;> rfl
  have gnil : ∀ i, (List.replicate n ([] : List Nat)).getD i [] = [] := fun i => by
    rw [List.getD_eq_getElem?_getD, List.getElem?_replicate]; split <;> rfl
  have I0 : ClI w1 p n bs adr capr bw w4 0 (zeroM n) (List.replicate n []) (List.replicate n (none, 0)) := by
    refine ⟨⟨hr2.at_.kp0 k4, hr2.kp.trans k4, hr2.new⟩, fun i j hb => (by rw [bitM_zero] at hb; cases hb), ⟨?_, by simp, by simp, fun i hi => (by rw [gnone, gnil]; exact ownS_nil _ _ _), fun i j _ _ _ b hb => (by rw [gnone] at hb; simp [blkOf] at hb)⟩, fun b hb => ?_, fun a b ha => ?_, fun a => (by rw [gnil]; simp)⟩
    · have := hu4.blk
      have e1 : (List.range n).map (fun i => Value.slice ((List.replicate n ((none : Option Addr), 0)).getD i (none, 0)).1 ((List.replicate n ([] : List Nat)).getD i []).length ((List.replicate n ((none : Option Addr), 0)).getD i (none, 0)).2) = List.replicate n (.slice none 0 0) := by
        rw [List.eq_replicate_iff]
        refine ⟨by simp, fun x hx => ?_⟩
        obtain ⟨i, _, rfl⟩ := List.mem_map.1 hx
        rw [gnone, gnil]; rfl
      rw [e1]; exact this
    · rcases mem_wasBlks.1 hb with rfl | ⟨i, _, hb⟩
      · omega
      · rw [gnone] at hb; simp [blkOf] at hb
    · rw [bitM_zero, gnil]; simp
  (repeat first|refine zA ?_|refine zB ?_|refine zC ?_|refine zD ?_|refine zE ?_|refine zg ?_|refine zo rfl rfl (by first|exact trivial|(simp only[AllP];omega)|(simp(discharger:=omega)only[AllP,cA,cB];omega)|(simp only[AllP,cC,cD,cE,cF,cG];omega)) ?_|refine zn ?_|refine zb ?_|refine ze rfl ?_|refine zr ?_|refine zk ?_|refine zT rfl rfl rfl ?_|refine zU rfl rfl rfl ?_|refine zV rfl rfl rfl ?_|refine zf rfl ?_|refine zt rfl ?_)
  clear hr2 hu4 hs3
  refine r_loop (α := Nat × List (List Nat) × List (List Nat) × List (Option Addr × Nat)) [1, 5, 6, 8, 9] (fun g => [.slice ad es.length c, I n, ptr p, .slice (some ⟨bw, 0, none⟩) n n, I g.1]) (fun g wc => ClI w1 p n bs adr capr bw wc g.1 g.2.1 g.2.2.1 g.2.2.2 ∧ g.1 ≤ es.length) (fun g => es.length - g.1) (0, _, _, _) rfl ⟨I0, by omega⟩ ?_
  clear I0 k4 hbw gnone gnil
  clear w4
  rintro ⟨i, M, Ws, As⟩ e wc ⟨hI, hi⟩
  dsimp only at hI hi ⊢
  have kc := k1.trans hI.rel.kp
  (repeat first|refine zA ?_|refine zB ?_|refine zC ?_|refine zD ?_|refine zE ?_|refine zg ?_|refine zo rfl rfl (by first|exact trivial|(simp only[AllP];omega)|(simp(discharger:=omega)only[AllP,cA,cB];omega)|(simp only[AllP,cC,cD,cE,cF,cG];omega)) ?_|refine zn ?_|refine zb ?_|refine ze rfl ?_|refine zr ?_|refine zk ?_|refine zT rfl rfl rfl ?_|refine zU rfl rfl rfl ?_|refine zV rfl rfl rfl ?_|refine zf rfl ?_|refine zt rfl ?_)
  refine r_if rfl (fun hc => ?_) (fun hc => ?_)
  · have hlt : i < es.length := by omega
    obtain ⟨x0, hx0⟩ : ∃ x, es[i]? = some x := ⟨_, List.getElem?_eq_getElem hlt⟩
    obtain ⟨d, x, y⟩ := x0
    obtain ⟨hrx, hry⟩ := hrng _ (List.mem_of_getElem? hx0)
    dsimp only at hrx hry
    obtain ⟨b, off, rfl, hb, hcell⟩ := h.at_ (by rw [edgeV_len]; omega)
    (repeat first|refine zA ?_|refine zB ?_|refine zC ?_|refine zD ?_|refine zE ?_|refine zg ?_|refine zo rfl rfl (by first|exact trivial|(simp only[AllP];omega)|(simp(discharger:=omega)only[AllP,cA,cB];omega)|(simp only[AllP,cC,cD,cE,cF,cG];omega)) ?_|refine zn ?_|refine zb ?_|refine ze rfl ?_|refine zr ?_|refine zk ?_|refine zT rfl rfl rfl ?_|refine zU rfl rfl rfl ?_|refine zV rfl rfl rfl ?_|refine zf rfl ?_|refine zt rfl ?_)
    refine o_loadA (vs := [I d, I x, I y]) rfl (fun j v hv => ?_) rfl rfl rfl rfl rfl rfl ?_
    · have h1 := hcell _ _ (edgeV_get hx0 j v hv)
      rw [Nat.add_assoc, ← h1]
      exact World.cell?_of_block (kc.at_ b hb (by simp))
    (repeat first|refine zA ?_|refine zB ?_|refine zC ?_|refine zD ?_|refine zE ?_|refine zg ?_|refine zo rfl rfl (by first|exact trivial|(simp only[AllP];omega)|(simp(discharger:=omega)only[AllP,cA,cB];omega)|(simp only[AllP,cC,cD,cE,cF,cG];omega)) ?_|refine zn ?_|refine zb ?_|refine ze rfl ?_|refine zr ?_|refine zk ?_|refine zT rfl rfl rfl ?_|refine zU rfl rfl rfl ?_|refine zV rfl rfl rfl ?_|refine zf rfl ?_|refine zt rfl ?_)
    refine o_alloc rfl rfl rfl rfl ?_
    intro bx w5 hbx hu5
    refine o_storeA (cs := [I d, I x, I y]) rfl hu5.blk (by show 0 + 3 ≤ 3; omega) rfl (by simp [Value.oneCell']) rfl rfl rfl rfl ?_
    intro w6 hu6
    have k6 : Kp [] wc w6 := (hu5.kp [] (.inr (by omega))).since (hu6.kp [bx] (.inl (by simp))) (by simp; omega)
    have hX6 : Blk w6 bx [I d, I x, I y] 56 := hu6.blk
    have hr6 : NewRel w1 p n w6 bs M adr capr := ⟨hI.rel.at_.kp0 k6, hI.rel.kp.trans k6, hI.rel.new⟩
    have hw6 := hI.was.kp0 k6
    (repeat first|refine zA ?_|refine zB ?_|refine zC ?_|refine zD ?_|refine zE ?_|refine zg ?_|refine zo rfl rfl (by first|exact trivial|(simp only[AllP];omega)|(simp(discharger:=omega)only[AllP,cA,cB];omega)|(simp only[AllP,cC,cD,cE,cF,cG];omega)) ?_|refine zn ?_|refine zb ?_|refine ze rfl ?_|refine zr ?_|refine zk ?_|refine zT rfl rfl rfl ?_|refine zU rfl rfl rfl ?_|refine zV rfl rfl rfl ?_|refine zf rfl ?_|refine zt rfl ?_)
    refine o_load rfl hX6 rfl rfl rfl rfl rfl ?_
    (repeat first|refine zA ?_|refine zB ?_|refine zC ?_|refine zD ?_|refine zE ?_|refine zg ?_|refine zo rfl rfl (by first|exact trivial|(simp only[AllP];omega)|(simp(discharger:=omega)only[AllP,cA,cB];omega)|(simp only[AllP,cC,cD,cE,cF,cG];omega)) ?_|refine zn ?_|refine zb ?_|refine ze rfl ?_|refine zr ?_|refine zk ?_|refine zT rfl rfl rfl ?_|refine zU rfl rfl rfl ?_|refine zV rfl rfl rfl ?_|refine zf rfl ?_|refine zt rfl ?_)
    refine o_load rfl hX6 rfl rfl rfl rfl rfl ?_
    (repeat first|refine zA ?_|refine zB ?_|refine zC ?_|refine zD ?_|refine zE ?_|refine zg ?_|refine zo rfl rfl (by first|exact trivial|(simp only[AllP];omega)|(simp(discharger:=omega)only[AllP,cA,cB];omega)|(simp only[AllP,cC,cD,cE,cF,cG];omega)) ?_|refine zn ?_|refine zb ?_|refine ze rfl ?_|refine zr ?_|refine zk ?_|refine zT rfl rfl rfl ?_|refine zU rfl rfl rfl ?_|refine zV rfl rfl rfl ?_|refine zf rfl ?_|refine zt rfl ?_)
    cases hv : (nodeB n x && nodeB n y) with
    | false =>
      refine o_call (Link_bad hr6.at_ hv) rfl rfl rfl ?_
      rintro v w7 ⟨rfl, rfl⟩
      (repeat first|refine zA ?_|refine zB ?_|refine zC ?_|refine zD ?_|refine zE ?_|refine zg ?_|refine zo rfl rfl (by first|exact trivial|(simp only[AllP];omega)|(simp(discharger:=omega)only[AllP,cA,cB];omega)|(simp only[AllP,cC,cD,cE,cF,cG];omega)) ?_|refine zn ?_|refine zb ?_|refine ze rfl ?_|refine zr ?_|refine zk ?_|refine zT rfl rfl rfl ?_|refine zU rfl rfl rfl ?_|refine zV rfl rfl rfl ?_|refine zf rfl ?_|refine zt rfl ?_)
      refine o_load rfl hX6 rfl rfl rfl rfl rfl ?_
      (repeat first|refine zA ?_|refine zB ?_|refine zC ?_|refine zD ?_|refine zE ?_|refine zg ?_|refine zo rfl rfl (by first|exact trivial|(simp only[AllP];omega)|(simp(discharger:=omega)only[AllP,cA,cB];omega)|(simp only[AllP,cC,cD,cE,cF,cG];omega)) ?_|refine zn ?_|refine zb ?_|refine ze rfl ?_|refine zr ?_|refine zk ?_|refine zT rfl rfl rfl ?_|refine zU rfl rfl rfl ?_|refine zV rfl rfl rfl ?_|refine zf rfl ?_|refine zt rfl ?_)
      refine o_cut (α := Unit) [1, 5, 6, 8, 9, 11, 84] (fun _ => [.slice (some ⟨b, off, none⟩) es.length c, I n, ptr p, .slice (some ⟨bw, 0, none⟩) n n, I i, I 2, .bool false]) (fun _ w' => w' = w7) ?_ ?_
      · refine o_split 5 true rfl rfl rfl (fun hb => ?_) (fun hb => ?_)
        · (repeat first|refine zo rfl rfl (by first|exact trivial|(simp only[AllP];omega)|(simp(discharger:=omega)only[AllP,cA,cB];omega)|(simp only[AllP,cC,cD,cE,cF,cG];omega)) ?_|refine zn ?_|refine zT rfl rfl rfl ?_|refine zU rfl rfl rfl ?_|refine zV rfl rfl rfl ?_)
          refine o_load rfl hX6 rfl rfl rfl rfl rfl ?_
          (repeat first|refine zo rfl rfl (by first|exact trivial|(simp only[AllP];omega)|(simp(discharger:=omega)only[AllP,cA,cB];omega)|(simp only[AllP,cC,cD,cE,cF,cG];omega)) ?_|refine zn ?_|refine zT rfl rfl rfl ?_|refine zU rfl rfl rfl ?_|refine zV rfl rfl rfl ?_)
          refine o_split 11 true rfl rfl rfl (fun hb2 => ?_) (fun hb2 => ?_)
          · (repeat first|refine zo rfl rfl (by first|exact trivial|(simp only[AllP];omega)|(simp(discharger:=omega)only[AllP,cA,cB];omega)|(simp only[AllP,cC,cD,cE,cF,cG];omega)) ?_|refine zn ?_|refine zT rfl rfl rfl ?_|refine zU rfl rfl rfl ?_|refine zV rfl rfl rfl ?_)
            refine o_load rfl hX6 rfl rfl rfl rfl rfl ?_
            (repeat first|refine zo rfl rfl (by first|exact trivial|(simp only[AllP];omega)|(simp(discharger:=omega)only[AllP,cA,cB];omega)|(simp only[AllP,cC,cD,cE,cF,cG];omega)) ?_|refine zn ?_|refine zT rfl rfl rfl ?_|refine zU rfl rfl rfl ?_|refine zV rfl rfl rfl ?_)
            refine o_split 16 true rfl rfl rfl (fun hb3 => ?_) (fun hb3 => ?_)
            · (repeat first|refine zo rfl rfl (by first|exact trivial|(simp only[AllP];omega)|(simp(discharger:=omega)only[AllP,cA,cB];omega)|(simp only[AllP,cC,cD,cE,cF,cG];omega)) ?_|refine zn ?_|refine zT rfl rfl rfl ?_|refine zU rfl rfl rfl ?_|refine zV rfl rfl rfl ?_)
              refine o_load rfl hX6 rfl rfl rfl rfl rfl ?_
              (repeat first|refine zo rfl rfl (by first|exact trivial|(simp only[AllP];omega)|(simp(discharger:=omega)only[AllP,cA,cB];omega)|(simp only[AllP,cC,cD,cE,cF,cG];omega)) ?_|refine zn ?_|refine zT rfl rfl rfl ?_|refine zU rfl rfl rfl ?_|refine zV rfl rfl rfl ?_)
              refine ⟨(), ?_, rfl⟩
              have e1 : decide (y < (n : Int)) = false := by
                unfold nodeB at hv
                have b1 : decide (0 ≤ x) = true := hb
                have b2 : decide (x < (n : Int)) = true := hb2
                have b3 : decide (0 ≤ y) = true := hb3
                rw [b1, b2, b3] at hv
                simpa using hv
              rw [e1]; rfl
            · (repeat first|refine zo rfl rfl (by first|exact trivial|(simp only[AllP];omega)|(simp(discharger:=omega)only[AllP,cA,cB];omega)|(simp only[AllP,cC,cD,cE,cF,cG];omega)) ?_|refine zn ?_|refine zT rfl rfl rfl ?_|refine zU rfl rfl rfl ?_|refine zV rfl rfl rfl ?_)
              exact ⟨(), rfl, rfl⟩
          · (repeat first|refine zo rfl rfl (by first|exact trivial|(simp only[AllP];omega)|(simp(discharger:=omega)only[AllP,cA,cB];omega)|(simp only[AllP,cC,cD,cE,cF,cG];omega)) ?_|refine zn ?_|refine zT rfl rfl rfl ?_|refine zU rfl rfl rfl ?_|refine zV rfl rfl rfl ?_)
            exact ⟨(), rfl, rfl⟩
        · (repeat first|refine zo rfl rfl (by first|exact trivial|(simp only[AllP];omega)|(simp(discharger:=omega)only[AllP,cA,cB];omega)|(simp only[AllP,cC,cD,cE,cF,cG];omega)) ?_|refine zn ?_|refine zT rfl rfl rfl ?_|refine zU rfl rfl rfl ?_|refine zV rfl rfl rfl ?_)
          exact ⟨(), rfl, rfl⟩
      rintro ⟨⟩ e w8 rfl
      (repeat first|refine zA ?_|refine zB ?_|refine zC ?_|refine zD ?_|refine zE ?_|refine zg ?_|refine zo rfl rfl (by first|exact trivial|(simp only[AllP];omega)|(simp(discharger:=omega)only[AllP,cA,cB];omega)|(simp only[AllP,cC,cD,cE,cF,cG];omega)) ?_|refine zn ?_|refine zb ?_|refine ze rfl ?_|refine zr ?_|refine zk ?_|refine zT rfl rfl rfl ?_|refine zU rfl rfl rfl ?_|refine zV rfl rfl rfl ?_|refine zf rfl ?_|refine zt rfl ?_)
      exact ⟨(i + 1, M, Ws, As), rfl, ⟨⟨hr6, hI.inb, hw6, hI.new, hI.bits, fun a => by have := hI.few a; dsimp only; omega⟩, by dsimp only; omega⟩, by dsimp only; omega⟩
    | true =>
      rw [Bool.and_eq_true] at hv
      obtain ⟨xi, hxi, hxn⟩ := nodeB_nat hv.1
      obtain ⟨yj, hyj, hyn⟩ := nodeB_nat hv.2
      have hL : Ret Tryd.prog 29 [ptr p, I x, I y] w6 (fun v w' => v = I 0 ∧ RelTo w6 p n bs adr capr w' (linkM M xi yj)) := by
        rw [hxi, hyj]; exact Link_ret hr6.at_ hxn hyn
      refine o_call hL rfl rfl rfl ?_
      rintro v w7 ⟨rfl, hto⟩
      have hbxr : bx ∉ relBlks p adr bs := fun hm => by
        obtain ⟨l2, T2, h2, t2⟩ := hr6.at_.typed3 bx hm
        refine relRow_ne hX6 h2 ?_ rfl
        rcases t2 with rfl | rfl | rfl <;> decide
      have hX7 := hto.kp.blk hbxr hX6
      have hr7 := hr6.to hto
      have hw7 := hw6.kp hto.kp (was_rel hw6 hr6.at_)
      (repeat first|refine zA ?_|refine zB ?_|refine zC ?_|refine zD ?_|refine zE ?_|refine zg ?_|refine zo rfl rfl (by first|exact trivial|(simp only[AllP];omega)|(simp(discharger:=omega)only[AllP,cA,cB];omega)|(simp only[AllP,cC,cD,cE,cF,cG];omega)) ?_|refine zn ?_|refine zb ?_|refine ze rfl ?_|refine zr ?_|refine zk ?_|refine zT rfl rfl rfl ?_|refine zU rfl rfl rfl ?_|refine zV rfl rfl rfl ?_|refine zf rfl ?_|refine zt rfl ?_)
      refine o_load rfl hX7 rfl rfl rfl rfl rfl ?_
      (repeat first|refine zA ?_|refine zB ?_|refine zC ?_|refine zD ?_|refine zE ?_|refine zg ?_|refine zo rfl rfl (by first|exact trivial|(simp only[AllP];omega)|(simp(discharger:=omega)only[AllP,cA,cB];omega)|(simp only[AllP,cC,cD,cE,cF,cG];omega)) ?_|refine zn ?_|refine zb ?_|refine ze rfl ?_|refine zr ?_|refine zk ?_|refine zT rfl rfl rfl ?_|refine zU rfl rfl rfl ?_|refine zV rfl rfl rfl ?_|refine zf rfl ?_|refine zt rfl ?_)
      refine o_is true 5 true rfl rfl rfl (by simp; omega) ?_
      (repeat first|refine zA ?_|refine zB ?_|refine zC ?_|refine zD ?_|refine zE ?_|refine zg ?_|refine zo rfl rfl (by first|exact trivial|(simp only[AllP];omega)|(simp(discharger:=omega)only[AllP,cA,cB];omega)|(simp only[AllP,cC,cD,cE,cF,cG];omega)) ?_|refine zn ?_|refine zb ?_|refine ze rfl ?_|refine zr ?_|refine zk ?_|refine zT rfl rfl rfl ?_|refine zU rfl rfl rfl ?_|refine zV rfl rfl rfl ?_|refine zf rfl ?_|refine zt rfl ?_)
      refine o_load rfl hX7 rfl rfl rfl rfl rfl ?_
      (repeat first|refine zA ?_|refine zB ?_|refine zC ?_|refine zD ?_|refine zE ?_|refine zg ?_|refine zo rfl rfl (by first|exact trivial|(simp only[AllP];omega)|(simp(discharger:=omega)only[AllP,cA,cB];omega)|(simp only[AllP,cC,cD,cE,cF,cG];omega)) ?_|refine zn ?_|refine zb ?_|refine ze rfl ?_|refine zr ?_|refine zk ?_|refine zT rfl rfl rfl ?_|refine zU rfl rfl rfl ?_|refine zV rfl rfl rfl ?_|refine zf rfl ?_|refine zt rfl ?_)
      refine o_is true 11 true rfl rfl rfl (by simp; omega) ?_
      (repeat first|refine zA ?_|refine zB ?_|refine zC ?_|refine zD ?_|refine zE ?_|refine zg ?_|refine zo rfl rfl (by first|exact trivial|(simp only[AllP];omega)|(simp(discharger:=omega)only[AllP,cA,cB];omega)|(simp only[AllP,cC,cD,cE,cF,cG];omega)) ?_|refine zn ?_|refine zb ?_|refine ze rfl ?_|refine zr ?_|refine zk ?_|refine zT rfl rfl rfl ?_|refine zU rfl rfl rfl ?_|refine zV rfl rfl rfl ?_|refine zf rfl ?_|refine zt rfl ?_)
      refine o_load rfl hX7 rfl rfl rfl rfl rfl ?_
      (repeat first|refine zA ?_|refine zB ?_|refine zC ?_|refine zD ?_|refine zE ?_|refine zg ?_|refine zo rfl rfl (by first|exact trivial|(simp only[AllP];omega)|(simp(discharger:=omega)only[AllP,cA,cB];omega)|(simp only[AllP,cC,cD,cE,cF,cG];omega)) ?_|refine zn ?_|refine zb ?_|refine ze rfl ?_|refine zr ?_|refine zk ?_|refine zT rfl rfl rfl ?_|refine zU rfl rfl rfl ?_|refine zV rfl rfl rfl ?_|refine zf rfl ?_|refine zt rfl ?_)
      refine o_is true 16 true rfl rfl rfl (by simp; omega) ?_
      (repeat first|refine zA ?_|refine zB ?_|refine zC ?_|refine zD ?_|refine zE ?_|refine zg ?_|refine zo rfl rfl (by first|exact trivial|(simp only[AllP];omega)|(simp(discharger:=omega)only[AllP,cA,cB];omega)|(simp only[AllP,cC,cD,cE,cF,cG];omega)) ?_|refine zn ?_|refine zb ?_|refine ze rfl ?_|refine zr ?_|refine zk ?_|refine zT rfl rfl rfl ?_|refine zU rfl rfl rfl ?_|refine zV rfl rfl rfl ?_|refine zf rfl ?_|refine zt rfl ?_)
      refine o_load rfl hX7 rfl rfl rfl rfl rfl ?_
      (repeat first|refine zA ?_|refine zB ?_|refine zC ?_|refine zD ?_|refine zE ?_|refine zg ?_|refine zo rfl rfl (by first|exact trivial|(simp only[AllP];omega)|(simp(discharger:=omega)only[AllP,cA,cB];omega)|(simp only[AllP,cC,cD,cE,cF,cG];omega)) ?_|refine zn ?_|refine zb ?_|refine ze rfl ?_|refine zr ?_|refine zk ?_|refine zT rfl rfl rfl ?_|refine zU rfl rfl rfl ?_|refine zV rfl rfl rfl ?_|refine zf rfl ?_|refine zt rfl ?_)
      have e1 : decide (y < (n : Int)) = true := decide_eq_true (by omega)
      refine r_no rfl (by rw [e1]; rfl) ?_
      (repeat first|refine zA ?_|refine zB ?_|refine zC ?_|refine zD ?_|refine zE ?_|refine zg ?_|refine zo rfl rfl (by first|exact trivial|(simp only[AllP];omega)|(simp(discharger:=omega)only[AllP,cA,cB];omega)|(simp only[AllP,cC,cD,cE,cF,cG];omega)) ?_|refine zn ?_|refine zb ?_|refine ze rfl ?_|refine zr ?_|refine zk ?_|refine zT rfl rfl rfl ?_|refine zU rfl rfl rfl ?_|refine zV rfl rfl rfl ?_|refine zf rfl ?_|refine zt rfl ?_)
      refine r_mix (fun w' => Blk w' bx [I d, I x, I y] 56 ∧ Blk w' bw ((List.range n).map fun i => Value.slice (As.getD i (none, 0)).1 (Ws.getD i []).length (As.getD i (none, 0)).2) 22) [(0, false), (1, false), (2, false), (3, false), (4, false), (5, false), (6, false), (7, false), (8, false), (9, false), (10, true), (11, true), (12, false), (13, true)] follows_mixed (by kernel_rfl) (by kernel_rfl) (by kernel_rfl) ⟨(Sm.drew w7).blk hX7, (Sm.drew w7).blk hw7.blk⟩ ?_
      have hr8 : NewRel w1 p n { w7 with drawn := w7.drawn + 1 } bs (linkM M xi yj) adr capr := ⟨hr7.at_.sm (Sm.drew w7), hr7.kp.trans ((Sm.drew w7).kp []), hr7.new⟩
      have hw8 := hw7.kp0 ((Sm.drew w7).kp [])
      have hX8 := (Sm.drew w7).blk hX7
      generalize ({ w7 with drawn := w7.drawn + 1 } : World) = w8 at hr8 hw8 hX8 ⊢
      (repeat first|refine xo rfl rfl (by first|exact trivial|(simp only[AllP];omega)|(simp(discharger:=omega)only[AllP,cA,cB];omega)|(simp only[AllP,cC,cD,cE,cF,cG];omega)) ?_|refine xn ?_|refine x_know rfl _ _ (some true) rfl rfl rfl ?_|refine x_know rfl _ _ (some false) rfl rfl rfl ?_|refine x_know rfl _ _ none rfl rfl rfl ?_)
      refine x_load rfl rfl (fun w' h' => h'.1.cell rfl) rfl rfl rfl rfl ?_
      (repeat first|refine xo rfl rfl (by first|exact trivial|(simp only[AllP];omega)|(simp(discharger:=omega)only[AllP,cA,cB];omega)|(simp only[AllP,cC,cD,cE,cF,cG];omega)) ?_|refine xn ?_|refine x_know rfl _ _ (some true) rfl rfl rfl ?_|refine x_know rfl _ _ (some false) rfl rfl rfl ?_|refine x_know rfl _ _ none rfl rfl rfl ?_)
      refine x_load rfl rfl (fun w' h' => h'.1.cell rfl) rfl rfl rfl rfl ?_
      (repeat first|refine xo rfl rfl (by first|exact trivial|(simp only[AllP];omega)|(simp(discharger:=omega)only[AllP,cA,cB];omega)|(simp only[AllP,cC,cD,cE,cF,cG];omega)) ?_|refine xn ?_|refine x_know rfl _ _ (some true) rfl rfl rfl ?_|refine x_know rfl _ _ (some false) rfl rfl rfl ?_|refine x_know rfl _ _ none rfl rfl rfl ?_)
      refine x_load (v := .slice (As.getD xi (none, 0)).1 (Ws.getD xi []).length (As.getD xi (none, 0)).2) rfl rfl (fun w' h' => ?_) rfl rfl rfl rfl ?_
      · show w'.cell? ⟨bw, 0 + x.toNat, none⟩ = _
        refine h'.2.cell ?_
        have : 0 + x.toNat = xi := by omega
        rw [this, List.getElem?_map, List.getElem?_range hxn]; rfl
      (repeat first|refine xo rfl rfl (by first|exact trivial|(simp only[AllP];omega)|(simp(discharger:=omega)only[AllP,cA,cB];omega)|(simp only[AllP,cC,cD,cE,cF,cG];omega)) ?_|refine xn ?_|refine x_know rfl _ _ (some true) rfl rfl rfl ?_|refine x_know rfl _ _ (some false) rfl rfl rfl ?_|refine x_know rfl _ _ none rfl rfl rfl ?_)
      refine x_load rfl rfl (fun w' h' => h'.1.cell rfl) rfl rfl rfl rfl ?_
      (repeat first|refine xo rfl rfl (by first|exact trivial|(simp only[AllP];omega)|(simp(discharger:=omega)only[AllP,cA,cB];omega)|(simp only[AllP,cC,cD,cE,cF,cG];omega)) ?_|refine xn ?_|refine x_know rfl _ _ (some true) rfl rfl rfl ?_|refine x_know rfl _ _ (some false) rfl rfl rfl ?_|refine x_know rfl _ _ none rfl rfl rfl ?_)
      refine x_act rfl ?_
      refine o_buildSlice [I (yj : Int)] (by rw [← hyj]; rfl) (by simp [Value.oneCell']) rfl (by decide) (by decide) rfl rfl rfl rfl rfl ?_
      intro b9 w9 hb9 hu9
      have k9 : Kp [] w8 w9 := hu9.kp [] (.inr (by omega))
      refine o_nil ⟨.inr ⟨k9.blk (by simp) hX8, k9.blk (by simp) hw8.blk⟩, ?_⟩
      (repeat first|refine xo rfl rfl (by first|exact trivial|(simp only[AllP];omega)|(simp(discharger:=omega)only[AllP,cA,cB];omega)|(simp only[AllP,cC,cD,cE,cF,cG];omega)) ?_|refine xn ?_|refine x_know rfl _ _ (some true) rfl rfl rfl ?_|refine x_know rfl _ _ (some false) rfl rfl rfl ?_|refine x_know rfl _ _ none rfl rfl rfl ?_)
      refine x_act rfl ?_
      have hrow9 := ((hw8.kp0 k9).row xi hxn)
      have hfew := hI.few xi
      refine o_append1 rfl rfl hrow9 hu9.blk rfl rfl rfl rfl (by simp only [maxLen]; omega) (by omega) rfl rfl ?_
      intro ad10 cap10 w10 ho10 k10 hnew10
      refine o_nil ⟨.inr ⟨?_, ?_⟩, ?_⟩
      · refine k10.blk (fun hm => ?_) (k9.blk (by simp) hX8)
        obtain ⟨l2, h2⟩ := hrow9.typed hm
        exact relRow_ne (k9.blk (by simp) hX8) h2 (by decide) rfl
      · refine k10.blk (fun hm => ?_) (k9.blk (by simp) hw8.blk)
        obtain ⟨l2, h2⟩ := hrow9.typed hm
        exact relRow_ne (k9.blk (by simp) hw8.blk) h2 (by decide) rfl
      have hbw10 : Blk w10 bw ((List.range n).map fun i => Value.slice (As.getD i (none, 0)).1 (Ws.getD i []).length (As.getD i (none, 0)).2) 22 := by
        refine k10.blk (fun hm => ?_) (k9.blk (by simp) hw8.blk)
        obtain ⟨l2, h2⟩ := hrow9.typed hm
        exact relRow_ne (k9.blk (by simp) hw8.blk) h2 (by decide) rfl
      have hxt : 0 + x.toNat = xi := by omega
      (repeat first|refine xo rfl rfl (by first|exact trivial|(simp only[AllP];omega)|(simp(discharger:=omega)only[AllP,cA,cB];omega)|(simp only[AllP,cC,cD,cE,cF,cG];omega)) ?_|refine xn ?_|refine x_know rfl _ _ (some true) rfl rfl rfl ?_|refine x_know rfl _ _ (some false) rfl rfl rfl ?_|refine x_know rfl _ _ none rfl rfl rfl ?_)
      refine x_act rfl ?_
      refine o_store (off := xi) (v := .slice ad10 ((Ws.getD xi []).length + 1) cap10) (c := none) ?_ hbw10 (by simp; omega) rfl rfl rfl rfl rfl rfl ?_
      · show Value.pointer (some ⟨bw, 0 + x.toNat, none⟩) = _
        rw [hxt]
      intro w11 hu11
      refine o_nil ⟨.inl (by kernel_rfl), ?_⟩
      (repeat first|refine xo rfl rfl (by first|exact trivial|(simp only[AllP];omega)|(simp(discharger:=omega)only[AllP,cA,cB];omega)|(simp only[AllP,cC,cD,cE,cF,cG];omega)) ?_|refine xn ?_|refine x_know rfl _ _ (some true) rfl rfl rfl ?_|refine x_know rfl _ _ (some false) rfl rfl rfl ?_|refine x_know rfl _ _ none rfl rfl rfl ?_)
      (repeat first|refine zA ?_|refine zB ?_|refine zC ?_|refine zD ?_|refine zE ?_|refine zg ?_|refine zo rfl rfl (by first|exact trivial|(simp only[AllP];omega)|(simp(discharger:=omega)only[AllP,cA,cB];omega)|(simp only[AllP,cC,cD,cE,cF,cG];omega)) ?_|refine zn ?_|refine zb ?_|refine ze rfl ?_|refine zr ?_|refine zk ?_|refine zT rfl rfl rfl ?_|refine zU rfl rfl rfl ?_|refine zV rfl rfl rfl ?_|refine zf rfl ?_|refine zt rfl ?_)
      obtain ⟨hw11, k11, hnew11⟩ := hw8.grew k9 hxn ho10 k10 hnew10 hu11
      have hS : ∀ b, b ∈ bw :: blkOf (As.getD xi (none, 0)).1 → b ∈ wasBlks bw n As := fun b hb => by
        rcases List.mem_cons.1 hb with rfl | hb
        · exact mem_wasBlks.2 (.inl rfl)
        · exact mem_wasBlks.2 (.inr ⟨xi, hxn, hb⟩)
      have hWs : ∀ a, (Ws.set xi (Ws.getD xi [] ++ [yj])).getD a [] = if xi = a then Ws.getD xi [] ++ [yj] else Ws.getD a [] := fun a => getDset _ _ _ (by rw [hI.was.nW]; exact hxn)
      refine ⟨(i + 1, linkM M xi yj, Ws.set xi (Ws.getD xi [] ++ [yj]), As.set xi (ad10, cap10)), rfl, ⟨⟨⟨hr8.at_.kp k11 (fun b hb hb2 => was_rel hw8 hr8.at_ b (hS b hb2) hb), hr8.kp.since k11 (fun b hb => hI.new b (hS b hb)), hr8.new⟩, ?_, hw11, ?_, ?_, ?_⟩, by dsimp only; omega⟩, by dsimp only; omega⟩
      · intro a b hb
        dsimp only at hb
        rw [bitM_linkM hI.rel.at_.mok hxn hyn, Bool.or_eq_true, decide_eq_true_eq] at hb
        rcases hb with hb | ⟨_, rfl⟩
        · exact hI.inb a b hb
        · exact hyn
      · intro b hb
        rcases hnew11 b hb with h1 | h1
        · exact hI.new b h1
        · have := hr8.kp.size; omega
      · intro a b ha
        dsimp only
        rw [bitM_linkM hI.rel.at_.mok hxn hyn, Bool.or_eq_true, decide_eq_true_eq, hI.bits a b ha, hWs]
        by_cases e : xi = a
        · subst e; simp
        · rw [if_neg e]
          constructor
          · rintro (h | ⟨h, _⟩)
            · exact h
            · exact absurd h.symm e
          · exact .inl
      · intro a
        dsimp only
        rw [hWs]
        have h1 := hI.few a
        have h2 := hI.few xi
        split
        · rw [List.length_append]; simp only [List.length_singleton]; omega
        · omega
  · have hie : i = es.length := by omega
    subst hie
    have hTc := hT1.kp hI.rel.kp (by simp)
    have hM := hI.rel.at_.mok
    have hto := turned_ok hM hI.inb
    (repeat first|refine zA ?_|refine zB ?_|refine zC ?_|refine zD ?_|refine zE ?_|refine zg ?_|refine zo rfl rfl (by first|exact trivial|(simp only[AllP];omega)|(simp(discharger:=omega)only[AllP,cA,cB];omega)|(simp only[AllP,cC,cD,cE,cF,cG];omega)) ?_|refine zn ?_|refine zb ?_|refine ze rfl ?_|refine zr ?_|refine zk ?_|refine zT rfl rfl rfl ?_|refine zU rfl rfl rfl ?_|refine zV rfl rfl rfl ?_|refine zf rfl ?_|refine zt rfl ?_)
    refine o_call (Turned_ret hTc hI.rel.at_ hI.inb) rfl rfl rfl ?_
    rintro v w5 ⟨q, bs2, ad2, cap2, rfl, hq⟩
    obtain ⟨htm, htb, hti⟩ := hto
    generalize turnedM n (pairsL n M) = Mt at hq htm htb hti
    have ha5 := hI.rel.at_.kp0 hq.kp
    have hw5 := hI.was.kp0 hq.kp
    (repeat first|refine zA ?_|refine zB ?_|refine zC ?_|refine zD ?_|refine zE ?_|refine zg ?_|refine zo rfl rfl (by first|exact trivial|(simp only[AllP];omega)|(simp(discharger:=omega)only[AllP,cA,cB];omega)|(simp only[AllP,cC,cD,cE,cF,cG];omega)) ?_|refine zn ?_|refine zb ?_|refine ze rfl ?_|refine zr ?_|refine zk ?_|refine zT rfl rfl rfl ?_|refine zU rfl rfl rfl ?_|refine zV rfl rfl rfl ?_|refine zf rfl ?_|refine zt rfl ?_)
    refine o_call (Close_ret ha5) rfl rfl rfl ?_
    rintro v w6 ⟨rfl, hca⟩
    have hw6 := hw5.kp hca.kp (was_rel hw5 ha5)
    have hq6 : RelAt w6 q n bs2 Mt ad2 cap2 := hq.at_.kp hca.kp (fun b hb hb2 => by
      have := hq.new b hb; have := hI.rel.at_.lt b hb2; omega)
    (repeat first|refine zA ?_|refine zB ?_|refine zC ?_|refine zD ?_|refine zE ?_|refine zg ?_|refine zo rfl rfl (by first|exact trivial|(simp only[AllP];omega)|(simp(discharger:=omega)only[AllP,cA,cB];omega)|(simp only[AllP,cC,cD,cE,cF,cG];omega)) ?_|refine zn ?_|refine zb ?_|refine ze rfl ?_|refine zr ?_|refine zk ?_|refine zT rfl rfl rfl ?_|refine zU rfl rfl rfl ?_|refine zV rfl rfl rfl ?_|refine zf rfl ?_|refine zt rfl ?_)
    refine o_call (Close_ret hq6) rfl rfl rfl ?_
    rintro v w7 ⟨rfl, hcq⟩
    have hw7 := hw6.kp hcq.kp (was_rel hw6 hq6)
    have ha7 : RelAt w7 p n bs (closeM n M) adr capr := hca.at_.kp hcq.kp (fun b hb hb2 => by
      have := hq.new b hb2; have := hI.rel.at_.lt b hb; omega)
    have hq7 := hcq.at_
    have k67 : Kp [] w1 w7 := ((hI.rel.kp.trans hq.kp).since hca.kp hI.rel.new).since hcq.kp (fun b hb => by have := hq.new b hb; have := hI.rel.kp.size; omega)
    have hT7 := hT1.kp k67 (by simp)
    -- what is linked
    have hR : ∀ a b, linkR M a b ↔ b ∈ Ws.getD a [] := fun a b => by
      unfold linkR
      by_cases ha : a < n
      · exact hI.bits a b ha
      · rw [bitM_out hM (by omega)]
        have : Ws.getD a [] = [] := by rw [List.getD_eq_getElem?_getD, List.getElem?_eq_none (by rw [hI.was.nW]; omega)]; rfl
        rw [this]; simp
    have hN : ∀ i j, bitM (closeM n M) i j = true ↔ Ch (fun a b => b ∈ Ws.getD a []) i j := fun i j => by
      rw [closeM_iff hM]
      exact ⟨Ch.mono fun a b => (hR a b).1, Ch.mono fun a b => (hR a b).2⟩
    have hNt : ∀ i j, bitM (closeM n Mt) j i = true ↔ Ch (fun a b => b ∈ Ws.getD a []) i j := fun i j => by
      rw [closeM_iff htm]
      constructor
      · intro hc
        exact hc.flip.mono fun a b hab => (hR a b).1 (by unfold linkR at hab ⊢; rwa [htb] at hab)
      · intro hc
        exact hc.flip.mono fun a b hab => by
          have := (hR b a).2 hab
          unfold linkR at this ⊢; rwa [htb]
    have hWn : ∀ a, ∀ y ∈ Ws.getD a [], y < n := fun a y hy => hI.inb a y ((hR a y).2 hy)
    have hfew := hI.few
    have hwnew := hI.new
    clear hca hcq hw5 hw6 hq6 ha5
    have hmul : es.length * (n + 1) ≤ 1048576 * 48 := Nat.mul_le_mul hl (by omega)
    (repeat first|refine zA ?_|refine zB ?_|refine zC ?_|refine zD ?_|refine zE ?_|refine zg ?_|refine zo rfl rfl (by first|exact trivial|(simp only[AllP];omega)|(simp(discharger:=omega)only[AllP,cA,cB];omega)|(simp only[AllP,cC,cD,cE,cF,cG];omega)) ?_|refine zn ?_|refine zb ?_|refine ze rfl ?_|refine zr ?_|refine zk ?_|refine zT rfl rfl rfl ?_|refine zU rfl rfl rfl ?_|refine zV rfl rfl rfl ?_|refine zf rfl ?_|refine zt rfl ?_)
    refine r_loop (α := Nat) [5, 6, 8, 12, 15] (fun i => [I n, ptr p, .slice (some ⟨bw, 0, none⟩) n n, ptr q, I i]) (fun i wd => Kp [] w7 wd ∧ i ≤ n) (fun i => n - i) 0 rfl ⟨Kp.refl _ _, by omega⟩ ?_
    rintro i e wd ⟨hkd, hin⟩
    (repeat first|refine zA ?_|refine zB ?_|refine zC ?_|refine zD ?_|refine zE ?_|refine zg ?_|refine zo rfl rfl (by first|exact trivial|(simp only[AllP];omega)|(simp(discharger:=omega)only[AllP,cA,cB];omega)|(simp only[AllP,cC,cD,cE,cF,cG];omega)) ?_|refine zn ?_|refine zb ?_|refine ze rfl ?_|refine zr ?_|refine zk ?_|refine zT rfl rfl rfl ?_|refine zU rfl rfl rfl ?_|refine zV rfl rfl rfl ?_|refine zf rfl ?_|refine zt rfl ?_)
    refine r_if rfl (fun hc2 => ?_) (fun hc2 => ?_)
    · have hilt : i < n := by omega
      (repeat first|refine zA ?_|refine zB ?_|refine zC ?_|refine zD ?_|refine zE ?_|refine zg ?_|refine zo rfl rfl (by first|exact trivial|(simp only[AllP];omega)|(simp(discharger:=omega)only[AllP,cA,cB];omega)|(simp only[AllP,cC,cD,cE,cF,cG];omega)) ?_|refine zn ?_|refine zb ?_|refine ze rfl ?_|refine zr ?_|refine zk ?_|refine zT rfl rfl rfl ?_|refine zU rfl rfl rfl ?_|refine zV rfl rfl rfl ?_|refine zf rfl ?_|refine zt rfl ?_)
      refine o_make (len := (n : Int)) (cap := (n : Int)) (kl := .i64) (kc := .i64) rfl rfl rfl rfl rfl (by omega) (by omega) (by omega) (by omega) rfl rfl ?_
      intro bz w8 hbz hu8
      rw [Int.toNat_natCast] at hu8 ⊢
      have k8 : Kp [] w7 w8 := hkd.trans (hu8.kp [] (.inr (by omega)))
      have hw8 := hw7.kp0 k8
      have hs8 := hkd.size
      have hZ8 : Blk w8 bz (rowL n fun x => B (decide (x ∈ ([] : List Nat)))) 4 := by
        have := hu8.blk
        rw [rowL_rep] at this
        exact this
      have hrow8 := hw8.row i hilt
      (repeat first|refine zA ?_|refine zB ?_|refine zC ?_|refine zD ?_|refine zE ?_|refine zg ?_|refine zo rfl rfl (by first|exact trivial|(simp only[AllP];omega)|(simp(discharger:=omega)only[AllP,cA,cB];omega)|(simp only[AllP,cC,cD,cE,cF,cG];omega)) ?_|refine zn ?_|refine zb ?_|refine ze rfl ?_|refine zr ?_|refine zk ?_|refine zT rfl rfl rfl ?_|refine zU rfl rfl rfl ?_|refine zV rfl rfl rfl ?_|refine zf rfl ?_|refine zt rfl ?_)
      refine o_load (v := .slice (As.getD i (none, 0)).1 (Ws.getD i []).length (As.getD i (none, 0)).2) rfl hw8.blk ?_ rfl rfl rfl rfl ?_
      · show (_ : List Value)[0 + i]? = _
        rw [Nat.zero_add, List.getElem?_map, List.getElem?_range hilt]; rfl
      (repeat first|refine zA ?_|refine zB ?_|refine zC ?_|refine zD ?_|refine zE ?_|refine zg ?_|refine zo rfl rfl (by first|exact trivial|(simp only[AllP];omega)|(simp(discharger:=omega)only[AllP,cA,cB];omega)|(simp only[AllP,cC,cD,cE,cF,cG];omega)) ?_|refine zn ?_|refine zb ?_|refine ze rfl ?_|refine zr ?_|refine zk ?_|refine zT rfl rfl rfl ?_|refine zU rfl rfl rfl ?_|refine zV rfl rfl rfl ?_|refine zf rfl ?_|refine zt rfl ?_)
      have hfi := hfew i
      refine o_appendNil ((Ws.getD i []).map encI) rfl rfl hrow8.read rfl rfl rfl (by simp) (by simp [Value.oneCell', encI]) (by simp only [maxLen]; omega) (by omega) rfl rfl ?_
      intro ad9 cap9 w9 hn9
      have k9 := k8.trans hn9.kp
      have hZ9 := hn9.kp.blk (by simp) hZ8
      (repeat first|refine zA ?_|refine zB ?_|refine zC ?_|refine zD ?_|refine zE ?_|refine zg ?_|refine zo rfl rfl (by first|exact trivial|(simp only[AllP];omega)|(simp(discharger:=omega)only[AllP,cA,cB];omega)|(simp only[AllP,cC,cD,cE,cF,cG];omega)) ?_|refine zn ?_|refine zb ?_|refine ze rfl ?_|refine zr ?_|refine zk ?_|refine zT rfl rfl rfl ?_|refine zU rfl rfl rfl ?_|refine zV rfl rfl rfl ?_|refine zf rfl ?_|refine zt rfl ?_)
      refine r_loop (α := List Nat × Nat × Option Addr × Nat) [5, 6, 8, 12, 15, 16, 17, 18] (fun g => [I n, ptr p, .slice (some ⟨bw, 0, none⟩) n n, ptr q, I i, .slice (some ⟨bz, 0, none⟩) n n, .slice g.2.2.1 g.1.length g.2.2.2, I g.2.1])
        (fun g wf => Kp [] w7 wf ∧ Blk wf bz (rowL n fun x => B (decide (x ∈ g.1.take g.2.1))) 4 ∧ OwnS wf 3 1 g.2.2.1 g.1.length g.2.2.2 (g.1.map encI) ∧ Srch n Ws i g.1 g.2.1 ∧ (∀ b, b ∈ blkOf g.2.2.1 → w7.heap.size ≤ b) ∧ g.1.length + es.length * un n (g.1.take g.2.1) ≤ es.length * (n + 1))
        (fun g => un n (g.1.take g.2.1) * (es.length + 1) + (g.1.length - g.2.1)) (Ws.getD i [], 0, ad9, cap9) rfl
        ⟨k9, hZ9, hn9.own, ⟨Nat.zero_le _, fun x hx => ⟨hWn i x hx, .one hx⟩, fun y hy => hy, fun x hx => (by simp at hx)⟩, fun b hb => (by have := hn9.new b hb; have := k8.size; omega), (by
          show (Ws.getD i []).length + es.length * un n ((Ws.getD i []).take 0) ≤ _
          rw [List.take_zero, un_nil, Nat.mul_succ]; omega)⟩ ?_
      rintro ⟨td, at_, adt, capt⟩ e wf ⟨kf, hZ, hO, hS, hnewt, hbd⟩
      dsimp only at kf hZ hO hS hnewt hbd ⊢
      have hle := hS.le
      have htl : td.length ≤ 50331648 := by
        have : es.length * un n (td.take at_) ≥ 0 := Nat.zero_le _
        omega
      (repeat first|refine zA ?_|refine zB ?_|refine zC ?_|refine zD ?_|refine zE ?_|refine zg ?_|refine zo rfl rfl (by first|exact trivial|(simp only[AllP];omega)|(simp(discharger:=omega)only[AllP,cA,cB];omega)|(simp only[AllP,cC,cD,cE,cF,cG];omega)) ?_|refine zn ?_|refine zb ?_|refine ze rfl ?_|refine zr ?_|refine zk ?_|refine zT rfl rfl rfl ?_|refine zU rfl rfl rfl ?_|refine zV rfl rfl rfl ?_|refine zf rfl ?_|refine zt rfl ?_)
      refine r_if rfl (fun hc3 => ?_) (fun hc3 => ?_)
      · have hat : at_ < td.length := by omega
        obtain ⟨x, hx⟩ : ∃ x, td[at_]? = some x := ⟨_, List.getElem?_eq_getElem hat⟩
        have hxm : x ∈ td := List.mem_of_getElem? hx
        obtain ⟨hxn, hxc⟩ := hS.node x hxm
        have htk : td.take (at_ + 1) = td.take at_ ++ [x] := by rw [List.take_add_one, hx]; rfl
        obtain ⟨bt, ot, rfl, _, hct⟩ := hO.read.at_ (by simp; omega)
        have hcx : wf.cell? ⟨bt, ot + at_, none⟩ = some (I (x : Int)) := hct at_ _ (by rw [List.getElem?_map, hx]; rfl)
        (repeat first|refine zA ?_|refine zB ?_|refine zC ?_|refine zD ?_|refine zE ?_|refine zg ?_|refine zo rfl rfl (by first|exact trivial|(simp only[AllP];omega)|(simp(discharger:=omega)only[AllP,cA,cB];omega)|(simp only[AllP,cC,cD,cE,cF,cG];omega)) ?_|refine zn ?_|refine zb ?_|refine ze rfl ?_|refine zr ?_|refine zk ?_|refine zT rfl rfl rfl ?_|refine zU rfl rfl rfl ?_|refine zV rfl rfl rfl ?_|refine zf rfl ?_|refine zt rfl ?_)
        refine o_loadc rfl hcx rfl rfl rfl rfl ?_
        (repeat first|refine zA ?_|refine zB ?_|refine zC ?_|refine zD ?_|refine zE ?_|refine zg ?_|refine zo rfl rfl (by first|exact trivial|(simp only[AllP];omega)|(simp(discharger:=omega)only[AllP,cA,cB];omega)|(simp only[AllP,cC,cD,cE,cF,cG];omega)) ?_|refine zn ?_|refine zb ?_|refine ze rfl ?_|refine zr ?_|refine zk ?_|refine zT rfl rfl rfl ?_|refine zU rfl rfl rfl ?_|refine zV rfl rfl rfl ?_|refine zf rfl ?_|refine zt rfl ?_)
        refine o_load (v := B (decide (x ∈ td.take at_))) rfl hZ ?_ rfl rfl rfl rfl ?_
        · show (_ : List Value)[0 + x]? = _
          rw [Nat.zero_add]; exact rowL_get _ hxn
        (repeat first|refine zA ?_|refine zB ?_|refine zC ?_|refine zD ?_|refine zE ?_|refine zg ?_|refine zo rfl rfl (by first|exact trivial|(simp only[AllP];omega)|(simp(discharger:=omega)only[AllP,cA,cB];omega)|(simp only[AllP,cC,cD,cE,cF,cG];omega)) ?_|refine zn ?_|refine zb ?_|refine ze rfl ?_|refine zr ?_|refine zk ?_|refine zT rfl rfl rfl ?_|refine zU rfl rfl rfl ?_|refine zV rfl rfl rfl ?_|refine zf rfl ?_|refine zt rfl ?_)
        cases hseen : decide (x ∈ td.take at_) with
        | true =>
          have hsn : x ∈ td.take at_ := of_decide_eq_true hseen
          (repeat first|refine zA ?_|refine zB ?_|refine zC ?_|refine zD ?_|refine zE ?_|refine zg ?_|refine zo rfl rfl (by first|exact trivial|(simp only[AllP];omega)|(simp(discharger:=omega)only[AllP,cA,cB];omega)|(simp only[AllP,cC,cD,cE,cF,cG];omega)) ?_|refine zn ?_|refine zb ?_|refine ze rfl ?_|refine zr ?_|refine zk ?_|refine zT rfl rfl rfl ?_|refine zU rfl rfl rfl ?_|refine zV rfl rfl rfl ?_|refine zf rfl ?_|refine zt rfl ?_)
          have hun := un_old (n := n) hsn
          refine ⟨(td, at_ + 1, some ⟨bt, ot, none⟩, capt), rfl, ⟨kf, ?_, hO, ⟨hat, hS.node, hS.first, fun z hz => ?_⟩, hnewt, ?_⟩, ?_⟩
          · dsimp only
            rw [htk]
            have : (rowL n fun y => B (decide (y ∈ td.take at_ ++ [x]))) = rowL n fun y => B (decide (y ∈ td.take at_)) := rowL_congr fun y _ => by
              congr 1
              rw [decide_eq_decide]
              constructor
              · intro h
                rcases List.mem_append.1 h with h | h
                · exact h
                · simp at h; rw [h]; exact hsn
              · exact fun h => List.mem_append_left _ h
            rw [this]; exact hZ
          · dsimp only at hz
            rw [htk] at hz
            rcases List.mem_append.1 hz with hz | hz
            · exact hS.next z hz
            · simp at hz; rw [hz]; exact hS.next x hsn
          · dsimp only; rw [htk, hun]; exact hbd
          · dsimp only; rw [htk, hun]; omega
        | false =>
          have hsn : x ∉ td.take at_ := of_decide_eq_false hseen
          have hun := un_new hxn hsn
          have hwf := hw7.kp0 kf
          (repeat first|refine zA ?_|refine zB ?_|refine zC ?_|refine zD ?_|refine zE ?_|refine zg ?_|refine zo rfl rfl (by first|exact trivial|(simp only[AllP];omega)|(simp(discharger:=omega)only[AllP,cA,cB];omega)|(simp only[AllP,cC,cD,cE,cF,cG];omega)) ?_|refine zn ?_|refine zb ?_|refine ze rfl ?_|refine zr ?_|refine zk ?_|refine zT rfl rfl rfl ?_|refine zU rfl rfl rfl ?_|refine zV rfl rfl rfl ?_|refine zf rfl ?_|refine zt rfl ?_)
          refine o_loadc rfl hcx rfl rfl rfl rfl ?_
          (repeat first|refine zA ?_|refine zB ?_|refine zC ?_|refine zD ?_|refine zE ?_|refine zg ?_|refine zo rfl rfl (by first|exact trivial|(simp only[AllP];omega)|(simp(discharger:=omega)only[AllP,cA,cB];omega)|(simp only[AllP,cC,cD,cE,cF,cG];omega)) ?_|refine zn ?_|refine zb ?_|refine ze rfl ?_|refine zr ?_|refine zk ?_|refine zT rfl rfl rfl ?_|refine zU rfl rfl rfl ?_|refine zV rfl rfl rfl ?_|refine zf rfl ?_|refine zt rfl ?_)
          refine o_store (off := x) (v := B true) (c := none) ?_ hZ (by rw [rowL_len]; exact hxn) rfl rfl rfl rfl rfl rfl ?_
          · show Value.pointer (some ⟨bz, 0 + x, none⟩) = _
            rw [Nat.zero_add]
          intro wg hug
          rw [rowL_set] at hug
          have hbzlt := hZ.lt
          have kg : Kp [] w7 wg := kf.since (hug.kp [bz] (.inl (by simp))) (by simp; omega)
          have hzt : bz ∉ blkOf (some ⟨bt, ot, none⟩) := fun hm => by
            obtain ⟨l2, h2⟩ := hO.typed hm
            exact relRow_ne hZ h2 (by decide) rfl
          have hOg := hO.upd hug hzt
          have hwg := hw7.kp0 kg
          have hcx2 : wg.cell? ⟨bt, ot + at_, none⟩ = some (I (x : Int)) := by
            rw [← hcx]; exact World.cell?_of_block (hug.other bt (fun e => hzt (by simp [blkOf, e])))
          (repeat first|refine zA ?_|refine zB ?_|refine zC ?_|refine zD ?_|refine zE ?_|refine zg ?_|refine zo rfl rfl (by first|exact trivial|(simp only[AllP];omega)|(simp(discharger:=omega)only[AllP,cA,cB];omega)|(simp only[AllP,cC,cD,cE,cF,cG];omega)) ?_|refine zn ?_|refine zb ?_|refine ze rfl ?_|refine zr ?_|refine zk ?_|refine zT rfl rfl rfl ?_|refine zU rfl rfl rfl ?_|refine zV rfl rfl rfl ?_|refine zf rfl ?_|refine zt rfl ?_)
          refine o_loadc rfl hcx2 rfl rfl rfl rfl ?_
          (repeat first|refine zA ?_|refine zB ?_|refine zC ?_|refine zD ?_|refine zE ?_|refine zg ?_|refine zo rfl rfl (by first|exact trivial|(simp only[AllP];omega)|(simp(discharger:=omega)only[AllP,cA,cB];omega)|(simp only[AllP,cC,cD,cE,cF,cG];omega)) ?_|refine zn ?_|refine zb ?_|refine ze rfl ?_|refine zr ?_|refine zk ?_|refine zT rfl rfl rfl ?_|refine zU rfl rfl rfl ?_|refine zV rfl rfl rfl ?_|refine zf rfl ?_|refine zt rfl ?_)
          refine o_load (v := .slice (As.getD x (none, 0)).1 (Ws.getD x []).length (As.getD x (none, 0)).2) rfl hwg.blk ?_ rfl rfl rfl rfl ?_
          · show (_ : List Value)[0 + x]? = _
            rw [Nat.zero_add, List.getElem?_map, List.getElem?_range hxn]; rfl
          (repeat first|refine zA ?_|refine zB ?_|refine zC ?_|refine zD ?_|refine zE ?_|refine zg ?_|refine zo rfl rfl (by first|exact trivial|(simp only[AllP];omega)|(simp(discharger:=omega)only[AllP,cA,cB];omega)|(simp only[AllP,cC,cD,cE,cF,cG];omega)) ?_|refine zn ?_|refine zb ?_|refine ze rfl ?_|refine zr ?_|refine zk ?_|refine zT rfl rfl rfl ?_|refine zU rfl rfl rfl ?_|refine zV rfl rfl rfl ?_|refine zf rfl ?_|refine zt rfl ?_)
          have hfx := hfew x
          refine o_appendS ((Ws.getD x []).map encI) rfl rfl hOg (hwg.row x hxn).read rfl rfl rfl (by simp) (by simp [Value.oneCell', encI]) (by simp only [maxLen]; omega) (by omega) rfl rfl ?_
          intro adh caph wh hoh kh hnewh
          have kkh : Kp [] w7 wh := kg.since kh hnewt
          have hZh : Blk wh bz (rowL n fun y => if y = x then B true else B (decide (y ∈ td.take at_))) 4 := kh.blk hzt hug.blk
          have htk2 : (td ++ Ws.getD x []).take (at_ + 1) = td.take at_ ++ [x] := by
            rw [List.take_append_of_le_length (by omega), htk]
          (repeat first|refine zA ?_|refine zB ?_|refine zC ?_|refine zD ?_|refine zE ?_|refine zg ?_|refine zo rfl rfl (by first|exact trivial|(simp only[AllP];omega)|(simp(discharger:=omega)only[AllP,cA,cB];omega)|(simp only[AllP,cC,cD,cE,cF,cG];omega)) ?_|refine zn ?_|refine zb ?_|refine ze rfl ?_|refine zr ?_|refine zk ?_|refine zT rfl rfl rfl ?_|refine zU rfl rfl rfl ?_|refine zV rfl rfl rfl ?_|refine zf rfl ?_|refine zt rfl ?_)
          have hlen2 : (td ++ Ws.getD x []).length = td.length + (Ws.getD x []).length := List.length_append
          refine ⟨(td ++ Ws.getD x [], at_ + 1, adh, caph), ?_, ⟨kkh, ?_, ?_, ⟨(by dsimp only; rw [hlen2]; omega), fun z hz => ?_, fun y hy => List.mem_append_left _ (hS.first y hy), fun z hz y hy => ?_⟩, fun b hb => ?_, ?_⟩, ?_⟩
          · dsimp only; rw [hlen2]; rfl
          · dsimp only
            rw [htk2]
            have : (rowL n fun y => B (decide (y ∈ td.take at_ ++ [x]))) = rowL n fun y => if y = x then B true else B (decide (y ∈ td.take at_)) := rowL_congr fun y _ => by
              by_cases e : y = x
              · rw [if_pos e, e]
                congr 1
                exact decide_eq_true (by simp)
              · rw [if_neg e]
                congr 1
                rw [decide_eq_decide]
                simp [e]
            rw [this]; exact hZh
          · dsimp only; rw [hlen2, List.map_append]; exact hoh
          · dsimp only at hz
            rcases List.mem_append.1 hz with hz | hz
            · exact hS.node z hz
            · exact ⟨hWn x z hz, hxc.trans (.one hz)⟩
          · dsimp only at hz ⊢
            rw [htk2] at hz
            rcases List.mem_append.1 hz with hz | hz
            · exact List.mem_append_left _ (hS.next z hz y hy)
            · simp at hz; rw [hz] at hy; exact List.mem_append_right _ hy
          · rcases hnewh b hb with h1 | h1
            · exact hnewt b h1
            · have := kg.size; omega
          · dsimp only
            rw [htk2, hlen2]
            rw [hun, Nat.mul_succ] at hbd
            omega
          · dsimp only
            rw [htk2, hlen2]
            rw [hun, Nat.add_mul]
            omega
      · have hat : at_ = td.length := by omega
        subst hat
        have hfin := hS.done
        rw [List.take_length] at hZ
        (repeat first|refine zA ?_|refine zB ?_|refine zC ?_|refine zD ?_|refine zE ?_|refine zg ?_|refine zo rfl rfl (by first|exact trivial|(simp only[AllP];omega)|(simp(discharger:=omega)only[AllP,cA,cB];omega)|(simp only[AllP,cC,cD,cE,cF,cG];omega)) ?_|refine zn ?_|refine zb ?_|refine ze rfl ?_|refine zr ?_|refine zk ?_|refine zT rfl rfl rfl ?_|refine zU rfl rfl rfl ?_|refine zV rfl rfl rfl ?_|refine zf rfl ?_|refine zt rfl ?_)
        refine r_loop (α := Nat) [5, 6, 8, 12, 15, 16, 19] (fun j => [I n, ptr p, .slice (some ⟨bw, 0, none⟩) n n, ptr q, I i, .slice (some ⟨bz, 0, none⟩) n n, I j]) (fun j wg => Kp [] w7 wg ∧ Blk wg bz (rowL n fun x => B (decide (x ∈ td))) 4 ∧ j ≤ n) (fun j => n - j) 0 rfl ⟨kf, hZ, by omega⟩ ?_
        rintro j e wg ⟨kg, hZg, hjn⟩
        (repeat first|refine zA ?_|refine zB ?_|refine zC ?_|refine zD ?_|refine zE ?_|refine zg ?_|refine zo rfl rfl (by first|exact trivial|(simp only[AllP];omega)|(simp(discharger:=omega)only[AllP,cA,cB];omega)|(simp only[AllP,cC,cD,cE,cF,cG];omega)) ?_|refine zn ?_|refine zb ?_|refine ze rfl ?_|refine zr ?_|refine zk ?_|refine zT rfl rfl rfl ?_|refine zU rfl rfl rfl ?_|refine zV rfl rfl rfl ?_|refine zf rfl ?_|refine zt rfl ?_)
        refine r_if rfl (fun hc4 => ?_) (fun hc4 => ?_)
        · have hjlt : j < n := by omega
          have hag := ha7.kp0 kg
          have hqg := hq7.kp0 kg
          have la : linkedB n (closeM n M) (i : Int) (j : Int) = decide (j ∈ td) := by
            rw [linkedB_nat hilt hjlt, Bool.eq_iff_iff, decide_eq_true_eq, hN, hfin]
          have lq : linkedB n (closeM n Mt) (j : Int) (i : Int) = decide (j ∈ td) := by
            rw [linkedB_nat hjlt hilt, Bool.eq_iff_iff, decide_eq_true_eq, hNt, hfin]
          have hcz : ∀ w', Sm wg w' → w'.cell? ⟨bz, 0 + j, none⟩ = some (B (decide (j ∈ td))) := fun w' hs => by
            rw [Nat.zero_add]
            exact (hs.blk hZg).cell (rowL_get _ hjlt)
          (repeat first|refine zA ?_|refine zB ?_|refine zC ?_|refine zD ?_|refine zE ?_|refine zg ?_|refine zo rfl rfl (by first|exact trivial|(simp only[AllP];omega)|(simp(discharger:=omega)only[AllP,cA,cB];omega)|(simp only[AllP,cC,cD,cE,cF,cG];omega)) ?_|refine zn ?_|refine zb ?_|refine ze rfl ?_|refine zr ?_|refine zk ?_|refine zT rfl rfl rfl ?_|refine zU rfl rfl rfl ?_|refine zV rfl rfl rfl ?_|refine zf rfl ?_|refine zt rfl ?_)
          refine r_seq ?_
          refine r_quietS follows_mixed (by kernel_rfl) ?_
          (repeat first|refine yo rfl rfl (by first|exact trivial|(simp only[AllP];omega)|(simp(discharger:=omega)only[AllP,cA,cB];omega)|(simp only[AllP,cC,cD,cE,cF,cG];omega)) ?_|refine yn ?_|refine q_know _ _ (some true) rfl rfl rfl ?_|refine q_know _ _ (some false) rfl rfl rfl ?_|refine q_know _ _ none rfl rfl rfl ?_)
          refine q_call (.bool (decide (j ∈ td))) (linked_q hag i j la) Tryd.call32 rfl rfl rfl ?_
          (repeat first|refine yo rfl rfl (by first|exact trivial|(simp only[AllP];omega)|(simp(discharger:=omega)only[AllP,cA,cB];omega)|(simp only[AllP,cC,cD,cE,cF,cG];omega)) ?_|refine yn ?_|refine q_know _ _ (some true) rfl rfl rfl ?_|refine q_know _ _ (some false) rfl rfl rfl ?_|refine q_know _ _ none rfl rfl rfl ?_)
          refine q_load rfl hcz rfl rfl rfl rfl ?_
          (repeat first|refine yo rfl rfl (by first|exact trivial|(simp only[AllP];omega)|(simp(discharger:=omega)only[AllP,cA,cB];omega)|(simp only[AllP,cC,cD,cE,cF,cG];omega)) ?_|refine yn ?_|refine q_know _ _ (some true) rfl rfl rfl ?_|refine q_know _ _ (some false) rfl rfl rfl ?_|refine q_know _ _ none rfl rfl rfl ?_)
          refine q_is false 9 false rfl rfl rfl (by cases decide (j ∈ td) <;> rfl) ?_
          (repeat first|refine yo rfl rfl (by first|exact trivial|(simp only[AllP];omega)|(simp(discharger:=omega)only[AllP,cA,cB];omega)|(simp only[AllP,cC,cD,cE,cF,cG];omega)) ?_|refine yn ?_|refine q_know _ _ (some true) rfl rfl rfl ?_|refine q_know _ _ (some false) rfl rfl rfl ?_|refine q_know _ _ none rfl rfl rfl ?_)
          refine q_call (.bool (decide (j ∈ td))) (linked_q hqg j i lq) Tryd.call32 rfl rfl rfl ?_
          (repeat first|refine yo rfl rfl (by first|exact trivial|(simp only[AllP];omega)|(simp(discharger:=omega)only[AllP,cA,cB];omega)|(simp only[AllP,cC,cD,cE,cF,cG];omega)) ?_|refine yn ?_|refine q_know _ _ (some true) rfl rfl rfl ?_|refine q_know _ _ (some false) rfl rfl rfl ?_|refine q_know _ _ none rfl rfl rfl ?_)
          refine q_load rfl hcz rfl rfl rfl rfl ?_
          (repeat first|refine yo rfl rfl (by first|exact trivial|(simp only[AllP];omega)|(simp(discharger:=omega)only[AllP,cA,cB];omega)|(simp only[AllP,cC,cD,cE,cF,cG];omega)) ?_|refine yn ?_|refine q_know _ _ (some true) rfl rfl rfl ?_|refine q_know _ _ (some false) rfl rfl rfl ?_|refine q_know _ _ none rfl rfl rfl ?_)
          intro wh hsh
          refine r_no rfl (by cases decide (j ∈ td) <;> rfl) ?_
          (repeat first|refine zA ?_|refine zB ?_|refine zC ?_|refine zD ?_|refine zE ?_|refine zg ?_|refine zo rfl rfl (by first|exact trivial|(simp only[AllP];omega)|(simp(discharger:=omega)only[AllP,cA,cB];omega)|(simp only[AllP,cC,cD,cE,cF,cG];omega)) ?_|refine zn ?_|refine zb ?_|refine ze rfl ?_|refine zr ?_|refine zk ?_|refine zT rfl rfl rfl ?_|refine zU rfl rfl rfl ?_|refine zV rfl rfl rfl ?_|refine zf rfl ?_|refine zt rfl ?_)
          exact ⟨j + 1, rfl, ⟨kg.trans (hsh.kp []), hsh.blk hZg, by omega⟩, by omega⟩
        · have hjn2 : j = n := by omega
          subst hjn2
          (repeat first|refine zA ?_|refine zB ?_|refine zC ?_|refine zD ?_|refine zE ?_|refine zg ?_|refine zo rfl rfl (by first|exact trivial|(simp only[AllP];omega)|(simp(discharger:=omega)only[AllP,cA,cB];omega)|(simp only[AllP,cC,cD,cE,cF,cG];omega)) ?_|refine zn ?_|refine zb ?_|refine ze rfl ?_|refine zr ?_|refine zk ?_|refine zT rfl rfl rfl ?_|refine zU rfl rfl rfl ?_|refine zV rfl rfl rfl ?_|refine zf rfl ?_|refine zt rfl ?_)
          exact ⟨i + 1, rfl, ⟨kg, by omega⟩, by omega⟩
    · have hin2 : i = n := by omega
      have had := ha7.kp0 hkd
      have hTd := hT7.kp hkd (by simp)
      have hpl := pairsL_len n (closeM n M) (fun i hi => had.rowlen i hi)
      (repeat first|refine zA ?_|refine zB ?_|refine zC ?_|refine zD ?_|refine zE ?_|refine zg ?_|refine zo rfl rfl (by first|exact trivial|(simp only[AllP];omega)|(simp(discharger:=omega)only[AllP,cA,cB];omega)|(simp only[AllP,cC,cD,cE,cF,cG];omega)) ?_|refine zn ?_|refine zb ?_|refine ze rfl ?_|refine zr ?_|refine zk ?_|refine zT rfl rfl rfl ?_|refine zU rfl rfl rfl ?_|refine zV rfl rfl rfl ?_|refine zf rfl ?_|refine zt rfl ?_)
      refine o_call (Pairs_ret hTd had) rfl rfl rfl ?_
      rintro v w8 ⟨Fp, hseq, k8, hnew8⟩
      refine o_call (pairs_ret hseq (by omega) (most := -1) (by decide)) rfl rfl rfl ?_
      rintro v w9 ⟨ad9, cap9, rfl, hn9⟩
      have e1 : pairsN (pairsL n (closeM n M)) (-1) = pairsL n (closeM n M) := rfl
      rw [e1] at hn9 ⊢
      have k89 := k8.trans hn9.kp
      have ha9 := had.kp0 k89
      have hT9 := hTd.kp k89 (by simp)
      (repeat first|refine zA ?_|refine zB ?_|refine zC ?_|refine zD ?_|refine zE ?_|refine zg ?_|refine zo rfl rfl (by first|exact trivial|(simp only[AllP];omega)|(simp(discharger:=omega)only[AllP,cA,cB];omega)|(simp only[AllP,cC,cD,cE,cF,cG];omega)) ?_|refine zn ?_|refine zb ?_|refine ze rfl ?_|refine zr ?_|refine zk ?_|refine zT rfl rfl rfl ?_|refine zU rfl rfl rfl ?_|refine zV rfl rfl rfl ?_|refine zf rfl ?_|refine zt rfl ?_)
      refine o_call (Close_ret ha9) rfl rfl rfl ?_
      rintro v w10 ⟨rfl, hc10⟩
      rw [closeM_twice hM] at hc10
      have hown10 : OwnS w10 3 1 ad9 (flatP (pairsL n (closeM n M))).length cap9 ((flatP (pairsL n (closeM n M))).map encI) := hn9.own.kp hc10.kp (fun b hb hb2 => by
        obtain ⟨l1, g1⟩ := hn9.own.typed hb
        obtain ⟨l2, T2, g2, t2⟩ := ha9.typed3 b hb2
        refine relRow_ne g1 g2 ?_ rfl
        rcases t2 with rfl | rfl | rfl <;> decide)
      have hT10 : TabW w10 := hT9.kp hc10.kp ha9.far
      (repeat first|refine zA ?_|refine zB ?_|refine zC ?_|refine zD ?_|refine zE ?_|refine zg ?_|refine zo rfl rfl (by first|exact trivial|(simp only[AllP];omega)|(simp(discharger:=omega)only[AllP,cA,cB];omega)|(simp only[AllP,cC,cD,cE,cF,cG];omega)) ?_|refine zn ?_|refine zb ?_|refine ze rfl ?_|refine zr ?_|refine zk ?_|refine zT rfl rfl rfl ?_|refine zU rfl rfl rfl ?_|refine zV rfl rfl rfl ?_|refine zf rfl ?_|refine zt rfl ?_)
      refine o_call (Pairs_ret hT10 hc10.at_) rfl rfl rfl ?_
      rintro v w11 ⟨Fp2, hseq2, k11, hnew11⟩
      refine o_call (pairs_ret hseq2 (by omega) (most := -1) (by decide)) rfl rfl rfl ?_
      rintro v w12 ⟨ad12, cap12, rfl, hn12⟩
      rw [e1] at hn12 ⊢
      have hfl := flatP_len (pairsL n (closeM n M))
      have q1 := hn12.read
      have q2 := hown10.read.kp (k11.trans hn12.kp) (by simp)
      rw [map_encI] at q1 q2
      (repeat first|refine zA ?_|refine zB ?_|refine zC ?_|refine zD ?_|refine zE ?_|refine zg ?_|refine zo rfl rfl (by first|exact trivial|(simp only[AllP];omega)|(simp(discharger:=omega)only[AllP,cA,cB];omega)|(simp only[AllP,cC,cD,cE,cF,cG];omega)) ?_|refine zn ?_|refine zb ?_|refine ze rfl ?_|refine zr ?_|refine zk ?_|refine zT rfl rfl rfl ?_|refine zU rfl rfl rfl ?_|refine zV rfl rfl rfl ?_|refine zf rfl ?_|refine zt rfl ?_)
      refine o_call (same_yes q1 q2 (by simp) (by simp) (by omega)) rfl rfl rfl ?_
      rintro v w13 ⟨rfl, hs13⟩
      (repeat first|refine zA ?_|refine zB ?_|refine zC ?_|refine zD ?_|refine zE ?_|refine zg ?_|refine zo rfl rfl (by first|exact trivial|(simp only[AllP];omega)|(simp(discharger:=omega)only[AllP,cA,cB];omega)|(simp only[AllP,cC,cD,cE,cF,cG];omega)) ?_|refine zn ?_|refine zb ?_|refine ze rfl ?_|refine zr ?_|refine zk ?_|refine zT rfl rfl rfl ?_|refine zU rfl rfl rfl ?_|refine zV rfl rfl rfl ?_|refine zf rfl ?_|refine zt rfl ?_)
      refine ⟨_, rfl, rfl, ?_⟩
      have kk9 : Kp [] w1 w9 := (k67.trans hkd).trans k89
      have kk10 : Kp [] w1 w10 := kk9.since hc10.kp hI.rel.new
      exact k1.trans (((kk10.trans k11).trans hn12.kp).trans (hs13.kp []))
end Go.Vc
