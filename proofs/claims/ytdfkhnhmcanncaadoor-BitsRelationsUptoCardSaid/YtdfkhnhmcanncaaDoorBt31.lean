/- bits: the document's relations: reached, Close. -/
import Derived.Test.YtdfkhnhmcanncaaDoorBt30
namespace Go.Vc
open Go Go.Proofs
set_option maxRecDepth 10000
variable {w : World}

section
variable {p bw n : Nat} {As : Nat → Option Addr × Nat} {M : List (List Nat)}
theorem rowsF_out (hM : MOk n M) {a : Nat} (ha : n ≤ a) : rowsF M a = [] := by
  unfold rowsF
  rw [List.getD_eq_getElem?_getD, List.getElem?_eq_none (by rw [hM.len]; exact ha)]
  simp [elems]
theorem rreached_ret (h : RRel w p bw n As M) (hM : MOk n M) (hin : InB n M) {i : Nat} (hilt : i < n) :
    Ret Tryd.prog 76 [ptr p, I i] w (fun v w' => ∃ ad' cap', v = .slice ad' (rowsF (closeM n M) i).length cap' ∧ NewS w 3 w' ad' (rowsF (closeM n M) i).length cap' ((rowsF (closeM n M) i).map encI)) := by
  have hn := h.small
  obtain ⟨Ws, hWs⟩ : ∃ Ws : List (List Nat), ∀ a, Ws.getD a [] = rowsF M a := ⟨(List.range n).map (rowsF M), fun a => by
    rw [List.getD_eq_getElem?_getD, List.getElem?_map]
    by_cases ha : a < n
    · rw [List.getElem?_range ha]; rfl
    · rw [List.getElem?_eq_none (by simp; omega), rowsF_out hM (by omega)]; rfl⟩
  have hWn : ∀ a, ∀ y ∈ Ws.getD a [], y < n := fun a y hy => by rw [hWs] at hy; exact hin _ _ (mem_rowsF.1 hy)
  have hfew : ∀ a, (Ws.getD a []).length ≤ 2048 := fun a => by rw [hWs]; exact rowsF_len hM hn a
  have hR : ∀ a b, linkR M a b ↔ b ∈ Ws.getD a [] := fun a b => by rw [hWs, mem_rowsF]; rfl
  have hN : ∀ a b, bitM (closeM n M) a b = true ↔ Ch (fun a b => b ∈ Ws.getD a []) a b := fun a b => by
    rw [closeM_iff hM]
    exact ⟨Ch.mono fun a b => (hR a b).1, Ch.mono fun a b => (hR a b).2⟩
  have hmul : 2048 * (n + 1) ≤ 2048 * 2049 := Nat.mul_le_mul (Nat.le_refl _) (by omega)
  have hlc : ∀ a, a < n → (lsRow n As (rowsF M))[0 + a]? = some (.slice (As a).1 (Ws.getD a []).length (As a).2) := fun a ha => by rw [Nat.zero_add, hWs]; exact lsRow_get _ _ ha
  have hrow : ∀ w', RRel w' p bw n As M → ∀ a, a < n → ReadS w' (As a).1 ((Ws.getD a []).map encI) := fun w' h' a ha => by rw [hWs]; exact (h'.ls.row a ha).read
  refine enter Tryd.call76 Tryd.func76 rfl rfl rfl rfl ?_
  (repeat first|refine zA ?_|refine zB ?_|refine zC ?_|refine zD ?_|refine zE ?_|refine zg ?_|refine zo rfl rfl (by first|exact trivial|(simp only[AllP];omega)|(simp(discharger:=omega)only[AllP,cA,cB];omega)|(simp only[AllP,cC,cD,cE,cF,cG];omega)) ?_|refine zn ?_|refine zb ?_|refine ze rfl ?_|refine zr ?_|refine zk ?_|refine zT rfl rfl rfl ?_|refine zU rfl rfl rfl ?_|refine zV rfl rfl rfl ?_|refine zf rfl ?_|refine zt rfl ?_)
  refine o_load rfl h.hdr rfl rfl rfl rfl rfl ?_
  (repeat first|refine zA ?_|refine zB ?_|refine zC ?_|refine zD ?_|refine zE ?_|refine zg ?_|refine zo rfl rfl (by first|exact trivial|(simp only[AllP];omega)|(simp(discharger:=omega)only[AllP,cA,cB];omega)|(simp only[AllP,cC,cD,cE,cF,cG];omega)) ?_|refine zn ?_|refine zb ?_|refine ze rfl ?_|refine zr ?_|refine zk ?_|refine zT rfl rfl rfl ?_|refine zU rfl rfl rfl ?_|refine zV rfl rfl rfl ?_|refine zf rfl ?_|refine zt rfl ?_)
  refine o_make (len := (n : Int)) (cap := (n : Int)) (kl := .i64) (kc := .i64) rfl rfl rfl rfl rfl (by omega) (by omega) (by omega) (by omega) rfl rfl ?_
  intro bz w8 hbz hu8
  rw [Int.toNat_natCast] at hu8 ⊢
  have k8 : Kp [] w w8 := hu8.kp [] (.inr (by omega))
  have hZ8 : Blk w8 bz (rowL n fun x => B (decide (x ∈ ([] : List Nat)))) 4 := by
    have := hu8.blk
    rw [rowL_rep] at this
    exact this
  have h8 := h.kp0 k8
  (repeat first|refine zA ?_|refine zB ?_|refine zC ?_|refine zD ?_|refine zE ?_|refine zg ?_|refine zo rfl rfl (by first|exact trivial|(simp only[AllP];omega)|(simp(discharger:=omega)only[AllP,cA,cB];omega)|(simp only[AllP,cC,cD,cE,cF,cG];omega)) ?_|refine zn ?_|refine zb ?_|refine ze rfl ?_|refine zr ?_|refine zk ?_|refine zT rfl rfl rfl ?_|refine zU rfl rfl rfl ?_|refine zV rfl rfl rfl ?_|refine zf rfl ?_|refine zt rfl ?_)
  refine o_load rfl h8.hdr rfl rfl rfl rfl rfl ?_
  (repeat first|refine zA ?_|refine zB ?_|refine zC ?_|refine zD ?_|refine zE ?_|refine zg ?_|refine zo rfl rfl (by first|exact trivial|(simp only[AllP];omega)|(simp(discharger:=omega)only[AllP,cA,cB];omega)|(simp only[AllP,cC,cD,cE,cF,cG];omega)) ?_|refine zn ?_|refine zb ?_|refine ze rfl ?_|refine zr ?_|refine zk ?_|refine zT rfl rfl rfl ?_|refine zU rfl rfl rfl ?_|refine zV rfl rfl rfl ?_|refine zf rfl ?_|refine zt rfl ?_)
  refine o_load rfl h8.ls.blk (hlc i hilt) rfl rfl rfl rfl ?_
  have hfi := hfew i
  refine o_appendNil ((Ws.getD i []).map encI) rfl rfl (hrow w8 h8 i hilt) rfl rfl rfl (by simp) (by simp [Value.oneCell', encI]) (by simp only [maxLen]; omega) (by omega) rfl rfl ?_
  intro ad9 cap9 w9 hn9
  have k9 := k8.trans hn9.kp
  have hZ9 := hn9.kp.blk (by simp) hZ8
  have hbz0 : w.heap.size ≤ bz := by omega
  (repeat first|refine zA ?_|refine zB ?_|refine zC ?_|refine zD ?_|refine zE ?_|refine zg ?_|refine zo rfl rfl (by first|exact trivial|(simp only[AllP];omega)|(simp(discharger:=omega)only[AllP,cA,cB];omega)|(simp only[AllP,cC,cD,cE,cF,cG];omega)) ?_|refine zn ?_|refine zb ?_|refine ze rfl ?_|refine zr ?_|refine zk ?_|refine zT rfl rfl rfl ?_|refine zU rfl rfl rfl ?_|refine zV rfl rfl rfl ?_|refine zf rfl ?_|refine zt rfl ?_)
  refine r_loop (α := List Nat × Nat × Option Addr × Nat) [0, 5, 6, 7] (fun g => [ptr p, .slice (some ⟨bz, 0, none⟩) n n, .slice g.2.2.1 g.1.length g.2.2.2, I g.2.1])
    (fun g wf => Kp [] w wf ∧ Blk wf bz (rowL n fun x => B (decide (x ∈ g.1.take g.2.1))) 4 ∧ OwnS wf 3 1 g.2.2.1 g.1.length g.2.2.2 (g.1.map encI) ∧ Srch n Ws i g.1 g.2.1 ∧ (∀ b, b ∈ blkOf g.2.2.1 → w.heap.size ≤ b) ∧ g.1.length + 2048 * un n (g.1.take g.2.1) ≤ 2048 * (n + 1))
    (fun g => un n (g.1.take g.2.1) * 2049 + (g.1.length - g.2.1)) (Ws.getD i [], 0, ad9, cap9) rfl
    ⟨k9, hZ9, hn9.own, ⟨Nat.zero_le _, fun x hx => ⟨hWn i x hx, .one hx⟩, fun y hy => hy, fun x hx => (by simp at hx)⟩, fun b hb => (by have := hn9.new b hb; have := k8.size; omega), (by
      show (Ws.getD i []).length + 2048 * un n ((Ws.getD i []).take 0) ≤ _
      rw [List.take_zero, un_nil]; omega)⟩ ?_
  rintro ⟨td, at_, adt, capt⟩ e wf ⟨kf, hZ, hO, hS, hnewt, hbd⟩
  dsimp only at kf hZ hO hS hnewt hbd ⊢
  have hle := hS.le
  have hf := h.kp0 kf
  (repeat first|refine zA ?_|refine zB ?_|refine zC ?_|refine zD ?_|refine zE ?_|refine zg ?_|refine zo rfl rfl (by first|exact trivial|(simp only[AllP];omega)|(simp(discharger:=omega)only[AllP,cA,cB];omega)|(simp only[AllP,cC,cD,cE,cF,cG];omega)) ?_|refine zn ?_|refine zb ?_|refine ze rfl ?_|refine zr ?_|refine zk ?_|refine zT rfl rfl rfl ?_|refine zU rfl rfl rfl ?_|refine zV rfl rfl rfl ?_|refine zf rfl ?_|refine zt rfl ?_)
  refine r_if rfl (fun hc3 => ?_) (fun hc3 => ?_)
  · have hat : at_ < td.length := by omega
    obtain ⟨x, hx⟩ : ∃ x, td[at_]? = some x := ⟨_, List.getElem?_eq_getElem hat⟩
    have hxm : x ∈ td := List.mem_of_getElem? hx
    obtain ⟨hxn, hxc⟩ := hS.node x hxm
    have htk : td.take (at_ + 1) = td.take at_ ++ [x] := by rw [List.take_add_one, hx]; rfl
    obtain ⟨bt, ot, rfl, _, hct⟩ := hO.read.at_ (by simp; omega)
    have hcx : wf.cell? ⟨bt, ot + at_, none⟩ = some (I (x : Int)) := hct at_ _ (by rw [List.getElem?_map, hx]; rfl)
    (repeat first|refine zA ?_|refine zB ?_|refine zC ?_|refine zD ?_|refine zE ?_|refine zg ?_|refine zo rfl rfl (by first|exact trivial|(simp only[AllP];omega)|(simp(discharger:=omega)only[AllP,cA,cB];omega)|(simp only[AllP,cC,cD,cE,cF,cG];omega)) ?_|refine zn ?_|refine zb ?_|refine ze rfl ?_|refine zr ?_|refine zk ?_|refine zT rfl rfl rfl ?_|refine zU rfl rfl rfl ?_|refine zV rfl rfl rfl ?_|refine zf rfl ?_|refine zt rfl ?_)
    refine o_loadc rfl hcx rfl rfl rfl rfl ?_
    (repeat first|refine zA ?_|refine zB ?_|refine zC ?_|refine zD ?_|refine zE ?_|refine zg ?_|refine zo rfl rfl (by first|exact trivial|(simp only[AllP];omega)|(simp(discharger:=omega)only[AllP,cA,cB];omega)|(simp only[AllP,cC,cD,cE,cF,cG];omega)) ?_|refine zn ?_|refine zb ?_|refine ze rfl ?_|refine zr ?_|refine zk ?_|refine zT rfl rfl rfl ?_|refine zU rfl rfl rfl ?_|refine zV rfl rfl rfl ?_|refine zf rfl ?_|refine zt rfl ?_)
    refine o_load (v := B (decide (x ∈ td.take at_))) rfl hZ ?_ rfl rfl rfl rfl ?_
    · show (_ : List Value)[0 + x]? = _
      rw [Nat.zero_add]; exact rowL_get _ hxn
    (repeat first|refine zA ?_|refine zB ?_|refine zC ?_|refine zD ?_|refine zE ?_|refine zg ?_|refine zo rfl rfl (by first|exact trivial|(simp only[AllP];omega)|(simp(discharger:=omega)only[AllP,cA,cB];omega)|(simp only[AllP,cC,cD,cE,cF,cG];omega)) ?_|refine zn ?_|refine zb ?_|refine ze rfl ?_|refine zr ?_|refine zk ?_|refine zT rfl rfl rfl ?_|refine zU rfl rfl rfl ?_|refine zV rfl rfl rfl ?_|refine zf rfl ?_|refine zt rfl ?_)
    cases hseen : decide (x ∈ td.take at_) with
    | true =>
      have hsn : x ∈ td.take at_ := of_decide_eq_true hseen
      (repeat first|refine zA ?_|refine zB ?_|refine zC ?_|refine zD ?_|refine zE ?_|refine zg ?_|refine zo rfl rfl (by first|exact trivial|(simp only[AllP];omega)|(simp(discharger:=omega)only[AllP,cA,cB];omega)|(simp only[AllP,cC,cD,cE,cF,cG];omega)) ?_|refine zn ?_|refine zb ?_|refine ze rfl ?_|refine zr ?_|refine zk ?_|refine zT rfl rfl rfl ?_|refine zU rfl rfl rfl ?_|refine zV rfl rfl rfl ?_|refine zf rfl ?_|refine zt rfl ?_)
      have hun := un_old (n := n) hsn
      refine ⟨(td, at_ + 1, some ⟨bt, ot, none⟩, capt), rfl, ⟨kf, ?_, hO, ⟨hat, hS.node, hS.first, fun z hz => ?_⟩, hnewt, ?_⟩, ?_⟩
      · dsimp only
        rw [htk]
        have : (rowL n fun y => B (decide (y ∈ td.take at_ ++ [x]))) = rowL n fun y => B (decide (y ∈ td.take at_)) := rowL_congr fun y _ => by
          congr 1
          rw [decide_eq_decide]
          constructor
          · intro h
            rcases List.mem_append.1 h with h | h
            · exact h
            · simp at h; rw [h]; exact hsn
          · exact fun h => List.mem_append_left _ h
        rw [this]; exact hZ
      · dsimp only at hz
        rw [htk] at hz
        rcases List.mem_append.1 hz with hz | hz
        · exact hS.next z hz
        · simp at hz; rw [hz]; exact hS.next x hsn
      · dsimp only; rw [htk, hun]; exact hbd
      · dsimp only; rw [htk, hun]; omega
    | false =>
      have hsn : x ∉ td.take at_ := of_decide_eq_false hseen
      have hun := un_new hxn hsn
      (repeat first|refine zA ?_|refine zB ?_|refine zC ?_|refine zD ?_|refine zE ?_|refine zg ?_|refine zo rfl rfl (by first|exact trivial|(simp only[AllP];omega)|(simp(discharger:=omega)only[AllP,cA,cB];omega)|(simp only[AllP,cC,cD,cE,cF,cG];omega)) ?_|refine zn ?_|refine zb ?_|refine ze rfl ?_|refine zr ?_|refine zk ?_|refine zT rfl rfl rfl ?_|refine zU rfl rfl rfl ?_|refine zV rfl rfl rfl ?_|refine zf rfl ?_|refine zt rfl ?_)
      refine o_store (off := x) (v := B true) (c := none) ?_ hZ (by rw [rowL_len]; exact hxn) rfl rfl rfl rfl rfl rfl ?_
      · show Value.pointer (some ⟨bz, 0 + x, none⟩) = _
        rw [Nat.zero_add]
      intro wg hug
      rw [rowL_set] at hug
      have kg : Kp [] w wg := kf.since (hug.kp [bz] (.inl (by simp))) (by simp; omega)
      have hzt : bz ∉ blkOf (some ⟨bt, ot, none⟩) := fun hm => by
        obtain ⟨l2, h2⟩ := hO.typed hm
        exact relRow_ne hZ h2 (by decide) rfl
      have hOg := hO.upd hug hzt
      have hg := h.kp0 kg
      (repeat first|refine zA ?_|refine zB ?_|refine zC ?_|refine zD ?_|refine zE ?_|refine zg ?_|refine zo rfl rfl (by first|exact trivial|(simp only[AllP];omega)|(simp(discharger:=omega)only[AllP,cA,cB];omega)|(simp only[AllP,cC,cD,cE,cF,cG];omega)) ?_|refine zn ?_|refine zb ?_|refine ze rfl ?_|refine zr ?_|refine zk ?_|refine zT rfl rfl rfl ?_|refine zU rfl rfl rfl ?_|refine zV rfl rfl rfl ?_|refine zf rfl ?_|refine zt rfl ?_)
      refine o_load rfl hg.hdr rfl rfl rfl rfl rfl ?_
      (repeat first|refine zA ?_|refine zB ?_|refine zC ?_|refine zD ?_|refine zE ?_|refine zg ?_|refine zo rfl rfl (by first|exact trivial|(simp only[AllP];omega)|(simp(discharger:=omega)only[AllP,cA,cB];omega)|(simp only[AllP,cC,cD,cE,cF,cG];omega)) ?_|refine zn ?_|refine zb ?_|refine ze rfl ?_|refine zr ?_|refine zk ?_|refine zT rfl rfl rfl ?_|refine zU rfl rfl rfl ?_|refine zV rfl rfl rfl ?_|refine zf rfl ?_|refine zt rfl ?_)
      refine o_load rfl hg.ls.blk (hlc x hxn) rfl rfl rfl rfl ?_
      have hfx := hfew x
      refine o_appendS ((Ws.getD x []).map encI) rfl rfl hOg (hrow wg hg x hxn) rfl rfl rfl (by simp) (by simp [Value.oneCell', encI]) (by simp only [maxLen]; omega) (by omega) rfl rfl ?_
      intro adh caph wh hoh kh hnewh
      have kkh : Kp [] w wh := kg.since kh hnewt
      have hZh : Blk wh bz (rowL n fun y => if y = x then B true else B (decide (y ∈ td.take at_))) 4 := kh.blk hzt hug.blk
      have htk2 : (td ++ Ws.getD x []).take (at_ + 1) = td.take at_ ++ [x] := by
        rw [List.take_append_of_le_length (by omega), htk]
      (repeat first|refine zA ?_|refine zB ?_|refine zC ?_|refine zD ?_|refine zE ?_|refine zg ?_|refine zo rfl rfl (by first|exact trivial|(simp only[AllP];omega)|(simp(discharger:=omega)only[AllP,cA,cB];omega)|(simp only[AllP,cC,cD,cE,cF,cG];omega)) ?_|refine zn ?_|refine zb ?_|refine ze rfl ?_|refine zr ?_|refine zk ?_|refine zT rfl rfl rfl ?_|refine zU rfl rfl rfl ?_|refine zV rfl rfl rfl ?_|refine zf rfl ?_|refine zt rfl ?_)
      have hlen2 : (td ++ Ws.getD x []).length = td.length + (Ws.getD x []).length := List.length_append
      refine ⟨(td ++ Ws.getD x [], at_ + 1, adh, caph), ?_, ⟨kkh, ?_, ?_, ⟨(by dsimp only; rw [hlen2]; omega), fun z hz => ?_, fun y hy => List.mem_append_left _ (hS.first y hy), fun z hz y hy => ?_⟩, fun b hb => ?_, ?_⟩, ?_⟩
      · dsimp only; rw [hlen2]; rfl
      · dsimp only
        rw [htk2]
        have : (rowL n fun y => B (decide (y ∈ td.take at_ ++ [x]))) = rowL n fun y => if y = x then B true else B (decide (y ∈ td.take at_)) := rowL_congr fun y _ => by
          by_cases e : y = x
          · rw [if_pos e, e]
            congr 1
            exact decide_eq_true (by simp)
          · rw [if_neg e]
            congr 1
            rw [decide_eq_decide]
            simp [e]
        rw [this]; exact hZh
      · dsimp only; rw [hlen2, List.map_append]; exact hoh
      · dsimp only at hz
        rcases List.mem_append.1 hz with hz | hz
        · exact hS.node z hz
        · exact ⟨hWn x z hz, hxc.trans (.one hz)⟩
      · dsimp only at hz ⊢
        rw [htk2] at hz
        rcases List.mem_append.1 hz with hz | hz
        · exact List.mem_append_left _ (hS.next z hz y hy)
        · simp at hz; rw [hz] at hy; exact List.mem_append_right _ hy
      · rcases hnewh b hb with h1 | h1
        · exact hnewt b h1
        · have := kg.size; omega
      · dsimp only
        rw [htk2, hlen2]
        omega
      · dsimp only
        rw [htk2, hlen2]
        omega
  · have hat : at_ = td.length := by omega
    subst hat
    have hfin := hS.done
    rw [List.take_length] at hZ
    have hres : rowsF (closeM n M) i = (List.range n).filter fun x => decide (x ∈ td) := sorted_ext (rowsF_sorted i) (List.Pairwise.filter _ List.pairwise_lt_range) fun x => by
      rw [mem_rowsF, hN, ← hfin, List.mem_filter, List.mem_range, decide_eq_true_eq]
      exact ⟨fun hx => ⟨(hS.node x hx).1, hx⟩, fun hx => hx.2⟩
    rw [hres]
    have hfl : ∀ j, ((List.range j).filter fun x => decide (x ∈ td)).length ≤ j := fun j => by
      have := List.length_filter_le (fun x => decide (x ∈ td)) (List.range j); simpa using this
    have hsucc : ∀ j, (List.range (j + 1)).filter (fun x => decide (x ∈ td)) = (List.range j).filter (fun x => decide (x ∈ td)) ++ if j ∈ td then [j] else [] := fun j => by
      rw [List.range_succ, List.filter_append]
      congr 1
      simp [List.filter_cons]
    (repeat first|refine zA ?_|refine zB ?_|refine zC ?_|refine zD ?_|refine zE ?_|refine zg ?_|refine zo rfl rfl (by first|exact trivial|(simp only[AllP];omega)|(simp(discharger:=omega)only[AllP,cA,cB];omega)|(simp only[AllP,cC,cD,cE,cF,cG];omega)) ?_|refine zn ?_|refine zb ?_|refine ze rfl ?_|refine zr ?_|refine zk ?_|refine zT rfl rfl rfl ?_|refine zU rfl rfl rfl ?_|refine zV rfl rfl rfl ?_|refine zf rfl ?_|refine zt rfl ?_)
    refine r_loop (α := Nat × Option Addr × Nat) [5, 9, 10] (fun g => [.slice (some ⟨bz, 0, none⟩) n n, .slice g.2.1 ((List.range g.1).filter fun x => decide (x ∈ td)).length g.2.2, I g.1]) (fun g wg => NewS wf 3 wg g.2.1 ((List.range g.1).filter fun x => decide (x ∈ td)).length g.2.2 (((List.range g.1).filter fun x => decide (x ∈ td)).map encI) ∧ g.1 ≤ n) (fun g => n - g.1) (0, none, 0) rfl ⟨⟨ownS_nil _ _ _, Kp.refl _ _, by simp [blkOf]⟩, by omega⟩ ?_
    rintro ⟨j, ad1, cap1⟩ e wg ⟨hNg, hj⟩
    dsimp only at hNg hj ⊢
    (repeat first|refine zA ?_|refine zB ?_|refine zC ?_|refine zD ?_|refine zE ?_|refine zg ?_|refine zo rfl rfl (by first|exact trivial|(simp only[AllP];omega)|(simp(discharger:=omega)only[AllP,cA,cB];omega)|(simp only[AllP,cC,cD,cE,cF,cG];omega)) ?_|refine zn ?_|refine zb ?_|refine ze rfl ?_|refine zr ?_|refine zk ?_|refine zT rfl rfl rfl ?_|refine zU rfl rfl rfl ?_|refine zV rfl rfl rfl ?_|refine zf rfl ?_|refine zt rfl ?_)
    refine r_if rfl (fun hc4 => ?_) (fun hc4 => ?_)
    · have hjn : j < n := by omega
      have hjl := hfl j
      have hZg := hNg.kp.blk (by simp) hZ
      (repeat first|refine zA ?_|refine zB ?_|refine zC ?_|refine zD ?_|refine zE ?_|refine zg ?_|refine zo rfl rfl (by first|exact trivial|(simp only[AllP];omega)|(simp(discharger:=omega)only[AllP,cA,cB];omega)|(simp only[AllP,cC,cD,cE,cF,cG];omega)) ?_|refine zn ?_|refine zb ?_|refine ze rfl ?_|refine zr ?_|refine zk ?_|refine zT rfl rfl rfl ?_|refine zU rfl rfl rfl ?_|refine zV rfl rfl rfl ?_|refine zf rfl ?_|refine zt rfl ?_)
      refine o_load (v := B (decide (j ∈ td))) rfl hZg ?_ rfl rfl rfl rfl ?_
      · show (_ : List Value)[0 + j]? = _
        rw [Nat.zero_add]; exact rowL_get _ hjn
      have hs := hsucc j
      (repeat first|refine zA ?_|refine zB ?_|refine zC ?_|refine zD ?_|refine zE ?_|refine zg ?_|refine zo rfl rfl (by first|exact trivial|(simp only[AllP];omega)|(simp(discharger:=omega)only[AllP,cA,cB];omega)|(simp only[AllP,cC,cD,cE,cF,cG];omega)) ?_|refine zn ?_|refine zb ?_|refine ze rfl ?_|refine zr ?_|refine zk ?_|refine zT rfl rfl rfl ?_|refine zU rfl rfl rfl ?_|refine zV rfl rfl rfl ?_|refine zf rfl ?_|refine zt rfl ?_)
      refine r_if (p := j ∈ td) rfl (fun hjt => ?_) (fun hjt => ?_)
      · rw [if_pos hjt] at hs
        (repeat first|refine zA ?_|refine zB ?_|refine zC ?_|refine zD ?_|refine zE ?_|refine zg ?_|refine zo rfl rfl (by first|exact trivial|(simp only[AllP];omega)|(simp(discharger:=omega)only[AllP,cA,cB];omega)|(simp only[AllP,cC,cD,cE,cF,cG];omega)) ?_|refine zn ?_|refine zb ?_|refine ze rfl ?_|refine zr ?_|refine zk ?_|refine zT rfl rfl rfl ?_|refine zU rfl rfl rfl ?_|refine zV rfl rfl rfl ?_|refine zf rfl ?_|refine zt rfl ?_)
        refine o_buildSlice [I (j : Int)] rfl (by simp [Value.oneCell']) rfl (by decide) (by decide) rfl rfl rfl rfl rfl ?_
        intro b3 w3 hb3 hu3
        have k3 : Kp [] wg w3 := hu3.kp [] (.inr (by omega))
        refine o_append1 rfl rfl (hNg.own.kp k3 (by simp)) hu3.blk rfl rfl rfl rfl (by simp only [maxLen]; omega) (by omega) rfl rfl ?_
        intro ad4 cap4 w4 ho4 k4 hnew4
        have hp := hNg.push k3 ho4 k4 hnew4
        (repeat first|refine zA ?_|refine zB ?_|refine zC ?_|refine zD ?_|refine zE ?_|refine zg ?_|refine zo rfl rfl (by first|exact trivial|(simp only[AllP];omega)|(simp(discharger:=omega)only[AllP,cA,cB];omega)|(simp only[AllP,cC,cD,cE,cF,cG];omega)) ?_|refine zn ?_|refine zb ?_|refine ze rfl ?_|refine zr ?_|refine zk ?_|refine zT rfl rfl rfl ?_|refine zU rfl rfl rfl ?_|refine zV rfl rfl rfl ?_|refine zf rfl ?_|refine zt rfl ?_)
        refine ⟨(j + 1, ad4, cap4), ?_, ⟨?_, by dsimp only; omega⟩, by dsimp only; omega⟩
        · dsimp only; rw [hs, List.length_append]; rfl
        · dsimp only; rw [hs, List.length_append, List.map_append]; exact hp
      · rw [if_neg hjt, List.append_nil] at hs
        (repeat first|refine zA ?_|refine zB ?_|refine zC ?_|refine zD ?_|refine zE ?_|refine zg ?_|refine zo rfl rfl (by first|exact trivial|(simp only[AllP];omega)|(simp(discharger:=omega)only[AllP,cA,cB];omega)|(simp only[AllP,cC,cD,cE,cF,cG];omega)) ?_|refine zn ?_|refine zb ?_|refine ze rfl ?_|refine zr ?_|refine zk ?_|refine zT rfl rfl rfl ?_|refine zU rfl rfl rfl ?_|refine zV rfl rfl rfl ?_|refine zf rfl ?_|refine zt rfl ?_)
        refine ⟨(j + 1, ad1, cap1), ?_, ⟨?_, by dsimp only; omega⟩, by dsimp only; omega⟩
        · dsimp only; rw [hs]; rfl
        · dsimp only; rw [hs]; exact hNg
    · have hjn : j = n := by omega
      subst hjn
      (repeat first|refine zA ?_|refine zB ?_|refine zC ?_|refine zD ?_|refine zE ?_|refine zg ?_|refine zo rfl rfl (by first|exact trivial|(simp only[AllP];omega)|(simp(discharger:=omega)only[AllP,cA,cB];omega)|(simp only[AllP,cC,cD,cE,cF,cG];omega)) ?_|refine zn ?_|refine zb ?_|refine ze rfl ?_|refine zr ?_|refine zk ?_|refine zT rfl rfl rfl ?_|refine zU rfl rfl rfl ?_|refine zV rfl rfl rfl ?_|refine zf rfl ?_|refine zt rfl ?_)
      exact ⟨_, rfl, ad1, cap1, rfl, hNg.own, kf.trans hNg.kp, fun b hb => by have := hNg.new b hb; have := kf.size; omega⟩
theorem rClose_nil : Ret Tryd.prog 43 [.pointer none] w (fun v w' => v = I 1 ∧ w' = w) := by
  refine enter Tryd.call43 Tryd.func43 rfl rfl rfl rfl ?_
  (repeat first|refine zA ?_|refine zB ?_|refine zC ?_|refine zD ?_|refine zE ?_|refine zg ?_|refine zo rfl rfl (by first|exact trivial|(simp only[AllP];omega)|(simp(discharger:=omega)only[AllP,cA,cB];omega)|(simp only[AllP,cC,cD,cE,cF,cG];omega)) ?_|refine zn ?_|refine zb ?_|refine ze rfl ?_|refine zr ?_|refine zk ?_|refine zT rfl rfl rfl ?_|refine zU rfl rfl rfl ?_|refine zV rfl rfl rfl ?_|refine zf rfl ?_|refine zt rfl ?_)
  exact ⟨_, rfl, rfl, rfl⟩
theorem rClose_ret (hT : TabW w) (h : RRel w p bw n As M) (hM : MOk n M) (hin : InB n M) :
    Ret Tryd.prog 43 [ptr p] w (fun v w' => v = I 0 ∧ ∃ bw' As', RRTo w p bw n As w' bw' As' (closeM n M)) := by
  have hn := h.small
  refine enter Tryd.call43 Tryd.func43 rfl rfl rfl rfl ?_
  (repeat first|refine zA ?_|refine zB ?_|refine zC ?_|refine zD ?_|refine zE ?_|refine zg ?_|refine zo rfl rfl (by first|exact trivial|(simp only[AllP];omega)|(simp(discharger:=omega)only[AllP,cA,cB];omega)|(simp only[AllP,cC,cD,cE,cF,cG];omega)) ?_|refine zn ?_|refine zb ?_|refine ze rfl ?_|refine zr ?_|refine zk ?_|refine zT rfl rfl rfl ?_|refine zU rfl rfl rfl ?_|refine zV rfl rfl rfl ?_|refine zf rfl ?_|refine zt rfl ?_)
  refine o_load rfl h.hdr rfl rfl rfl rfl rfl ?_
  (repeat first|refine zA ?_|refine zB ?_|refine zC ?_|refine zD ?_|refine zE ?_|refine zg ?_|refine zo rfl rfl (by first|exact trivial|(simp only[AllP];omega)|(simp(discharger:=omega)only[AllP,cA,cB];omega)|(simp only[AllP,cC,cD,cE,cF,cG];omega)) ?_|refine zn ?_|refine zb ?_|refine ze rfl ?_|refine zr ?_|refine zk ?_|refine zT rfl rfl rfl ?_|refine zU rfl rfl rfl ?_|refine zV rfl rfl rfl ?_|refine zf rfl ?_|refine zt rfl ?_)
  refine o_make1 (len := (n : Int)) (cap := (n : Int)) (kl := .i64) (kc := .i64) rfl rfl rfl rfl rfl (by omega) (by omega) (by omega) (by omega) rfl rfl ?_
  intro bq w2 hbq hu2
  rw [Int.toNat_natCast] at hu2 ⊢
  have k2 : Kp [] w w2 := hu2.kp [] (.inr (by omega))
  have hls2 := lsAt_none hu2.blk
  have hnew2 : ∀ b, b ∈ lsBlks bq n (fun _ => ((none : Option Addr), 0)) → w.heap.size ≤ b := fun b hb => by
    rcases mem_lsBlks.1 hb with rfl | ⟨i, _, hb⟩
    · omega
    · simp [blkOf] at hb
  (repeat first|refine zA ?_|refine zB ?_|refine zC ?_|refine zD ?_|refine zE ?_|refine zg ?_|refine zo rfl rfl (by first|exact trivial|(simp only[AllP];omega)|(simp(discharger:=omega)only[AllP,cA,cB];omega)|(simp only[AllP,cC,cD,cE,cF,cG];omega)) ?_|refine zn ?_|refine zb ?_|refine ze rfl ?_|refine zr ?_|refine zk ?_|refine zT rfl rfl rfl ?_|refine zU rfl rfl rfl ?_|refine zV rfl rfl rfl ?_|refine zf rfl ?_|refine zt rfl ?_)
  refine r_loop (α := Nat × (Nat → Option Addr × Nat)) [0, 3, 4] (fun g => [ptr p, .slice (some ⟨bq, 0, none⟩) n n, I g.1]) (fun g wc => LsAt wc 106 bq n g.2 (fun j => if j < g.1 then rowsF (closeM n M) j else []) ∧ Kp [] w wc ∧ (∀ b, b ∈ lsBlks bq n g.2 → w.heap.size ≤ b) ∧ g.1 ≤ n) (fun g => n - g.1) (0, fun _ => (none, 0)) rfl ⟨hls2.congr fun j _ => by simp, k2, hnew2, by omega⟩ ?_
  rintro ⟨i, Aq⟩ e wc ⟨hls, hk, hnew, hi⟩
  dsimp only at hls hk hnew hi ⊢
  have hc := h.kp0 hk
  (repeat first|refine zA ?_|refine zB ?_|refine zC ?_|refine zD ?_|refine zE ?_|refine zg ?_|refine zo rfl rfl (by first|exact trivial|(simp only[AllP];omega)|(simp(discharger:=omega)only[AllP,cA,cB];omega)|(simp only[AllP,cC,cD,cE,cF,cG];omega)) ?_|refine zn ?_|refine zb ?_|refine ze rfl ?_|refine zr ?_|refine zk ?_|refine zT rfl rfl rfl ?_|refine zU rfl rfl rfl ?_|refine zV rfl rfl rfl ?_|refine zf rfl ?_|refine zt rfl ?_)
  refine o_load rfl hc.hdr rfl rfl rfl rfl rfl ?_
  (repeat first|refine zA ?_|refine zB ?_|refine zC ?_|refine zD ?_|refine zE ?_|refine zg ?_|refine zo rfl rfl (by first|exact trivial|(simp only[AllP];omega)|(simp(discharger:=omega)only[AllP,cA,cB];omega)|(simp only[AllP,cC,cD,cE,cF,cG];omega)) ?_|refine zn ?_|refine zb ?_|refine ze rfl ?_|refine zr ?_|refine zk ?_|refine zT rfl rfl rfl ?_|refine zU rfl rfl rfl ?_|refine zV rfl rfl rfl ?_|refine zf rfl ?_|refine zt rfl ?_)
  refine r_if rfl (fun hcc => ?_) (fun hcc => ?_)
  · have hlt : i < n := by omega
    (repeat first|refine zA ?_|refine zB ?_|refine zC ?_|refine zD ?_|refine zE ?_|refine zg ?_|refine zo rfl rfl (by first|exact trivial|(simp only[AllP];omega)|(simp(discharger:=omega)only[AllP,cA,cB];omega)|(simp only[AllP,cC,cD,cE,cF,cG];omega)) ?_|refine zn ?_|refine zb ?_|refine ze rfl ?_|refine zr ?_|refine zk ?_|refine zT rfl rfl rfl ?_|refine zU rfl rfl rfl ?_|refine zV rfl rfl rfl ?_|refine zf rfl ?_|refine zt rfl ?_)
    refine o_call (rreached_ret hc hM hin hlt) rfl rfl rfl ?_
    rintro v w3 ⟨ad3, cap3, rfl, hn3⟩
    have hls3 := hls.kp0 hn3.kp
    (repeat first|refine zA ?_|refine zB ?_|refine zC ?_|refine zD ?_|refine zE ?_|refine zg ?_|refine zo rfl rfl (by first|exact trivial|(simp only[AllP];omega)|(simp(discharger:=omega)only[AllP,cA,cB];omega)|(simp only[AllP,cC,cD,cE,cF,cG];omega)) ?_|refine zn ?_|refine zb ?_|refine ze rfl ?_|refine zr ?_|refine zk ?_|refine zT rfl rfl rfl ?_|refine zU rfl rfl rfl ?_|refine zV rfl rfl rfl ?_|refine zf rfl ?_|refine zt rfl ?_)
    refine o_store (off := i) (v := .slice ad3 (rowsF (closeM n M) i).length cap3) (c := none) ?_ hls3.blk (by rw [lsRow_len]; exact hlt) rfl rfl rfl rfl rfl rfl ?_
    · show Value.pointer (some ⟨bq, 0 + i, none⟩) = _
      rw [Nat.zero_add]
    intro w4 hu4
    obtain ⟨hl4, k4, hnew4⟩ := hls.put (by decide) hn3.kp hlt hn3.own (Kp.refl _ _) (fun b hb => .inr (hn3.new b hb)) hu4
    (repeat first|refine zA ?_|refine zB ?_|refine zC ?_|refine zD ?_|refine zE ?_|refine zg ?_|refine zo rfl rfl (by first|exact trivial|(simp only[AllP];omega)|(simp(discharger:=omega)only[AllP,cA,cB];omega)|(simp only[AllP,cC,cD,cE,cF,cG];omega)) ?_|refine zn ?_|refine zb ?_|refine ze rfl ?_|refine zr ?_|refine zk ?_|refine zT rfl rfl rfl ?_|refine zU rfl rfl rfl ?_|refine zV rfl rfl rfl ?_|refine zf rfl ?_|refine zt rfl ?_)
    refine ⟨(i + 1, fun j => if j = i then (ad3, cap3) else Aq j), rfl, ⟨hl4.congr fun j _ => ?_, hk.since k4 (fun b hb => hnew b ?_), fun b hb => ?_, by dsimp only; omega⟩, by dsimp only; omega⟩
    · dsimp only
      by_cases e : j = i
      · subst e; simp
      · rw [if_neg e]
        by_cases h1 : j < i
        · rw [if_pos h1, if_pos (by omega)]
        · rw [if_neg h1, if_neg (by omega)]
    · rcases List.mem_cons.1 hb with rfl | hb
      · exact mem_lsBlks.2 (.inl rfl)
      · exact mem_lsBlks.2 (.inr ⟨i, hlt, hb⟩)
    · rcases hnew4 b hb with h1 | h1
      · exact hnew b h1
      · have := hk.size; omega
  · have hin2 : i = n := by omega
    subst hin2
    (repeat first|refine zA ?_|refine zB ?_|refine zC ?_|refine zD ?_|refine zE ?_|refine zg ?_|refine zo rfl rfl (by first|exact trivial|(simp only[AllP];omega)|(simp(discharger:=omega)only[AllP,cA,cB];omega)|(simp only[AllP,cC,cD,cE,cF,cG];omega)) ?_|refine zn ?_|refine zb ?_|refine ze rfl ?_|refine zr ?_|refine zk ?_|refine zT rfl rfl rfl ?_|refine zU rfl rfl rfl ?_|refine zV rfl rfl rfl ?_|refine zf rfl ?_|refine zt rfl ?_)
    refine o_store rfl hc.hdr (by simp) rfl rfl rfl rfl rfl rfl ?_
    intro w4 hu4
    (repeat first|refine zA ?_|refine zB ?_|refine zC ?_|refine zD ?_|refine zE ?_|refine zg ?_|refine zo rfl rfl (by first|exact trivial|(simp only[AllP];omega)|(simp(discharger:=omega)only[AllP,cA,cB];omega)|(simp only[AllP,cC,cD,cE,cF,cG];omega)) ?_|refine zn ?_|refine zb ?_|refine ze rfl ?_|refine zr ?_|refine zk ?_|refine zT rfl rfl rfl ?_|refine zU rfl rfl rfl ?_|refine zV rfl rfl rfl ?_|refine zf rfl ?_|refine zt rfl ?_)
    have hpl : p ∉ lsBlks bq i Aq := fun hm => by
      have := hnew p hm; have := h.hdr.lt; omega
    have k4 := hu4.kp [p] (.inl (by simp))
    refine ⟨_, rfl, rfl, bq, Aq, ⟨hu4.blk, (hls.kp k4 (fun b hb hb2 => by simp at hb2; subst hb2; exact hpl hb)).congr fun j hj => by simp [hj], hn, fun hm => ?_⟩, (hk.mono (S' := rrBlks p bw i As) (by simp)).trans (k4.mono fun b hb => by simp at hb; simp [hb, rrBlks]), fun b hb => .inr (hnew b hb)⟩
    rcases List.mem_cons.1 hm with e | hm
    · exact h.far (by rw [e]; simp)
    · have := hnew _ hm; have := hT.lt; omega
end
end Go.Vc
