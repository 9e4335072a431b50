/- bits: the document's sets: Within, Meets, Equal, Keep, Drop, Turn. -/
import Derived.Test.YtdfkhnhmcanncaaDoorBt35
namespace Go.Vc
open Go Go.Proofs
set_option maxRecDepth 10000
variable {w : World}
section
variable {p q : Nat} {l m : List Nat} {ad bd : Option Addr} {cap bap : Nat}
theorem in_q {ad : Option Addr} {l : List Nat} {c x : Nat} (h : ReadS w ad (l.map encI)) (hb : ∀ b, b ∈ blkOf ad → b < w.heap.size) (hl : l.length ≤ 16777216) : ∀ w1, Sm w w1 → Ret Tryd.prog 75 [.slice ad l.length c, I x] w1 (fun v' w' => v' = .bool (decide (x ∈ l)) ∧ Sm w w') :=
  fun w1 hs => (in_ret (h.kp (hs.kp []) (by simp)) hl).mono fun v w' ⟨h1, h2⟩ => ⟨by rw [h1]; simp, by rw [h2]; exact hs⟩

theorem refWithin_nil (v : Value) : Ret Tryd.prog 92 [.pointer none, v] w (fun v w' => v = .bool false ∧ w' = w) := by
  refine enter Tryd.call92 Tryd.func92 rfl rfl rfl rfl ?_
  (repeat first|refine zA ?_|refine zB ?_|refine zC ?_|refine zD ?_|refine zE ?_|refine zg ?_|refine zo rfl rfl (by first|exact trivial|(simp only[AllP];omega)|(simp(discharger:=omega)only[AllP,cA,cB];omega)|(simp only[AllP,cC,cD,cE,cF,cG];omega)) ?_|refine zn ?_|refine zb ?_|refine ze rfl ?_|refine zr ?_|refine zk ?_|refine zT rfl rfl rfl ?_|refine zU rfl rfl rfl ?_|refine zV rfl rfl rfl ?_|refine zf rfl ?_|refine zt rfl ?_)
  exact ⟨_, rfl, rfl, rfl⟩
theorem refWithin_nil2 : Ret Tryd.prog 92 [ptr p, .pointer none] w (fun v w' => v = .bool false ∧ w' = w) := by
  refine enter Tryd.call92 Tryd.func92 rfl rfl rfl rfl ?_
  (repeat first|refine zA ?_|refine zB ?_|refine zC ?_|refine zD ?_|refine zE ?_|refine zg ?_|refine zo rfl rfl (by first|exact trivial|(simp only[AllP];omega)|(simp(discharger:=omega)only[AllP,cA,cB];omega)|(simp only[AllP,cC,cD,cE,cF,cG];omega)) ?_|refine zn ?_|refine zb ?_|refine ze rfl ?_|refine zr ?_|refine zk ?_|refine zT rfl rfl rfl ?_|refine zU rfl rfl rfl ?_|refine zV rfl rfl rfl ?_|refine zf rfl ?_|refine zt rfl ?_)
  exact ⟨_, rfl, rfl, rfl⟩
theorem refWithin_ret (h : RefAt w p l ad cap) (k : RefAt w q m bd bap) (hl : l.length ≤ 16777216) (hm : m.length ≤ 16777216) : Ret Tryd.prog 92 [ptr p, ptr q] w (fun v w' => v = .bool (l.all fun x => decide (x ∈ m)) ∧ Sm w w') := by
  refine enter Tryd.call92 Tryd.func92 rfl rfl rfl rfl ?_
  (repeat first|refine zA ?_|refine zB ?_|refine zC ?_|refine zD ?_|refine zE ?_|refine zg ?_|refine zo rfl rfl (by first|exact trivial|(simp only[AllP];omega)|(simp(discharger:=omega)only[AllP,cA,cB];omega)|(simp only[AllP,cC,cD,cE,cF,cG];omega)) ?_|refine zn ?_|refine zb ?_|refine ze rfl ?_|refine zr ?_|refine zk ?_|refine zT rfl rfl rfl ?_|refine zU rfl rfl rfl ?_|refine zV rfl rfl rfl ?_|refine zf rfl ?_|refine zt rfl ?_)
  refine r_loop (α := Nat) [0, 1, 5] (fun i => [ptr p, ptr q, I i]) (fun i w1 => Sm w w1 ∧ i ≤ l.length ∧ ∀ x ∈ l.take i, x ∈ m) (fun i => l.length - i) 0 rfl ⟨Sm.refl _, by omega, by simp⟩ ?_
  rintro i e w1 ⟨hs1, hi, hall⟩
  have h1 := h.sm hs1
  have k1 := k.sm hs1
  (repeat first|refine zA ?_|refine zB ?_|refine zC ?_|refine zD ?_|refine zE ?_|refine zg ?_|refine zo rfl rfl (by first|exact trivial|(simp only[AllP];omega)|(simp(discharger:=omega)only[AllP,cA,cB];omega)|(simp only[AllP,cC,cD,cE,cF,cG];omega)) ?_|refine zn ?_|refine zb ?_|refine ze rfl ?_|refine zr ?_|refine zk ?_|refine zT rfl rfl rfl ?_|refine zU rfl rfl rfl ?_|refine zV rfl rfl rfl ?_|refine zf rfl ?_|refine zt rfl ?_)
  refine o_load rfl h1.hdr rfl rfl rfl rfl rfl ?_
  (repeat first|refine zA ?_|refine zB ?_|refine zC ?_|refine zD ?_|refine zE ?_|refine zg ?_|refine zo rfl rfl (by first|exact trivial|(simp only[AllP];omega)|(simp(discharger:=omega)only[AllP,cA,cB];omega)|(simp only[AllP,cC,cD,cE,cF,cG];omega)) ?_|refine zn ?_|refine zb ?_|refine ze rfl ?_|refine zr ?_|refine zk ?_|refine zT rfl rfl rfl ?_|refine zU rfl rfl rfl ?_|refine zV rfl rfl rfl ?_|refine zf rfl ?_|refine zt rfl ?_)
  refine r_if rfl (fun hc => ?_) (fun hc => ?_)
  · have hlt : i < l.length := by omega
    obtain ⟨x, hx⟩ : ∃ x, l[i]? = some x := ⟨_, List.getElem?_eq_getElem hlt⟩
    have htk : l.take (i + 1) = l.take i ++ [x] := by rw [List.take_add_one, hx]; rfl
    obtain ⟨b, o, hae, hbl, hcell⟩ := h1.own.read.at_ (by simp; omega)
    have hh := h1.hdr
    rw [hae] at hh
    have hcx : ∀ w', Sm w1 w' → w'.cell? ⟨b, o + i, none⟩ = some (I (x : Int)) := fun w' hk => by
      rw [← hcell i _ (by rw [List.getElem?_map, hx]; rfl)]
      exact World.cell?_of_block (by rw [hk.heap])
    (repeat first|refine zA ?_|refine zB ?_|refine zC ?_|refine zD ?_|refine zE ?_|refine zg ?_|refine zo rfl rfl (by first|exact trivial|(simp only[AllP];omega)|(simp(discharger:=omega)only[AllP,cA,cB];omega)|(simp only[AllP,cC,cD,cE,cF,cG];omega)) ?_|refine zn ?_|refine zb ?_|refine ze rfl ?_|refine zr ?_|refine zk ?_|refine zT rfl rfl rfl ?_|refine zU rfl rfl rfl ?_|refine zV rfl rfl rfl ?_|refine zf rfl ?_|refine zt rfl ?_)
    refine r_seq ?_
    refine r_quietS follows_mixed (by kernel_rfl) ?_
    (repeat first|refine yo rfl rfl (by first|exact trivial|(simp only[AllP];omega)|(simp(discharger:=omega)only[AllP,cA,cB];omega)|(simp only[AllP,cC,cD,cE,cF,cG];omega)) ?_|refine yn ?_|refine q_know _ _ (some true) rfl rfl rfl ?_|refine q_know _ _ (some false) rfl rfl rfl ?_|refine q_know _ _ none rfl rfl rfl ?_)
    refine q_load rfl (fun w hs => (hs.blk k1.hdr).cell rfl) rfl rfl rfl rfl ?_
    (repeat first|refine yo rfl rfl (by first|exact trivial|(simp only[AllP];omega)|(simp(discharger:=omega)only[AllP,cA,cB];omega)|(simp only[AllP,cC,cD,cE,cF,cG];omega)) ?_|refine yn ?_|refine q_know _ _ (some true) rfl rfl rfl ?_|refine q_know _ _ (some false) rfl rfl rfl ?_|refine q_know _ _ none rfl rfl rfl ?_)
    refine q_load rfl (fun w hs => (hs.blk hh).cell rfl) rfl rfl rfl rfl ?_
    (repeat first|refine yo rfl rfl (by first|exact trivial|(simp only[AllP];omega)|(simp(discharger:=omega)only[AllP,cA,cB];omega)|(simp only[AllP,cC,cD,cE,cF,cG];omega)) ?_|refine yn ?_|refine q_know _ _ (some true) rfl rfl rfl ?_|refine q_know _ _ (some false) rfl rfl rfl ?_|refine q_know _ _ none rfl rfl rfl ?_)
    refine q_load rfl hcx rfl rfl rfl rfl ?_
    (repeat first|refine yo rfl rfl (by first|exact trivial|(simp only[AllP];omega)|(simp(discharger:=omega)only[AllP,cA,cB];omega)|(simp only[AllP,cC,cD,cE,cF,cG];omega)) ?_|refine yn ?_|refine q_know _ _ (some true) rfl rfl rfl ?_|refine q_know _ _ (some false) rfl rfl rfl ?_|refine q_know _ _ none rfl rfl rfl ?_)
    refine q_call (.bool (decide (x ∈ m))) (in_q k1.own.read (fun b hb => k1.lt b (by simp [hb])) hm) Tryd.call75 rfl rfl rfl ?_
    (repeat first|refine yo rfl rfl (by first|exact trivial|(simp only[AllP];omega)|(simp(discharger:=omega)only[AllP,cA,cB];omega)|(simp only[AllP,cC,cD,cE,cF,cG];omega)) ?_|refine yn ?_|refine q_know _ _ (some true) rfl rfl rfl ?_|refine q_know _ _ (some false) rfl rfl rfl ?_|refine q_know _ _ none rfl rfl rfl ?_)
    intro w2 hs2
    refine r_ifn (p := x ∈ m) rfl (fun hne => ?_) (fun hin => ?_)
    · (repeat first|refine zA ?_|refine zB ?_|refine zC ?_|refine zD ?_|refine zE ?_|refine zg ?_|refine zo rfl rfl (by first|exact trivial|(simp only[AllP];omega)|(simp(discharger:=omega)only[AllP,cA,cB];omega)|(simp only[AllP,cC,cD,cE,cF,cG];omega)) ?_|refine zn ?_|refine zb ?_|refine ze rfl ?_|refine zr ?_|refine zk ?_|refine zT rfl rfl rfl ?_|refine zU rfl rfl rfl ?_|refine zV rfl rfl rfl ?_|refine zf rfl ?_|refine zt rfl ?_)
      refine ⟨_, rfl, ?_, hs1.trans hs2⟩
      have : l.all (fun x => decide (x ∈ m)) = false := List.all_eq_false.2 ⟨x, List.mem_of_getElem? hx, by simpa using hne⟩
      rw [this]
    · (repeat first|refine zA ?_|refine zB ?_|refine zC ?_|refine zD ?_|refine zE ?_|refine zg ?_|refine zo rfl rfl (by first|exact trivial|(simp only[AllP];omega)|(simp(discharger:=omega)only[AllP,cA,cB];omega)|(simp only[AllP,cC,cD,cE,cF,cG];omega)) ?_|refine zn ?_|refine zb ?_|refine ze rfl ?_|refine zr ?_|refine zk ?_|refine zT rfl rfl rfl ?_|refine zU rfl rfl rfl ?_|refine zV rfl rfl rfl ?_|refine zf rfl ?_|refine zt rfl ?_)
      refine ⟨i + 1, rfl, ⟨hs1.trans hs2, by omega, fun y hy => ?_⟩, by omega⟩
      rw [htk] at hy
      rcases List.mem_append.1 hy with hy | hy
      · exact hall y hy
      · simp at hy; rw [hy]; exact hin
  · have hie : i = l.length := by omega
    subst hie
    rw [List.take_length] at hall
    (repeat first|refine zA ?_|refine zB ?_|refine zC ?_|refine zD ?_|refine zE ?_|refine zg ?_|refine zo rfl rfl (by first|exact trivial|(simp only[AllP];omega)|(simp(discharger:=omega)only[AllP,cA,cB];omega)|(simp only[AllP,cC,cD,cE,cF,cG];omega)) ?_|refine zn ?_|refine zb ?_|refine ze rfl ?_|refine zr ?_|refine zk ?_|refine zT rfl rfl rfl ?_|refine zU rfl rfl rfl ?_|refine zV rfl rfl rfl ?_|refine zf rfl ?_|refine zt rfl ?_)
    refine ⟨_, rfl, ?_, hs1⟩
    have : l.all (fun x => decide (x ∈ m)) = true := List.all_eq_true.2 fun x hx => by simpa using hall x hx
    rw [this]

theorem refMeets_nil (v : Value) : Ret Tryd.prog 93 [.pointer none, v] w (fun v w' => v = .bool false ∧ w' = w) := by
  refine enter Tryd.call93 Tryd.func93 rfl rfl rfl rfl ?_
  (repeat first|refine zA ?_|refine zB ?_|refine zC ?_|refine zD ?_|refine zE ?_|refine zg ?_|refine zo rfl rfl (by first|exact trivial|(simp only[AllP];omega)|(simp(discharger:=omega)only[AllP,cA,cB];omega)|(simp only[AllP,cC,cD,cE,cF,cG];omega)) ?_|refine zn ?_|refine zb ?_|refine ze rfl ?_|refine zr ?_|refine zk ?_|refine zT rfl rfl rfl ?_|refine zU rfl rfl rfl ?_|refine zV rfl rfl rfl ?_|refine zf rfl ?_|refine zt rfl ?_)
  exact ⟨_, rfl, rfl, rfl⟩
theorem refMeets_nil2 : Ret Tryd.prog 93 [ptr p, .pointer none] w (fun v w' => v = .bool false ∧ w' = w) := by
  refine enter Tryd.call93 Tryd.func93 rfl rfl rfl rfl ?_
  (repeat first|refine zA ?_|refine zB ?_|refine zC ?_|refine zD ?_|refine zE ?_|refine zg ?_|refine zo rfl rfl (by first|exact trivial|(simp only[AllP];omega)|(simp(discharger:=omega)only[AllP,cA,cB];omega)|(simp only[AllP,cC,cD,cE,cF,cG];omega)) ?_|refine zn ?_|refine zb ?_|refine ze rfl ?_|refine zr ?_|refine zk ?_|refine zT rfl rfl rfl ?_|refine zU rfl rfl rfl ?_|refine zV rfl rfl rfl ?_|refine zf rfl ?_|refine zt rfl ?_)
  exact ⟨_, rfl, rfl, rfl⟩
theorem refMeets_ret (h : RefAt w p l ad cap) (k : RefAt w q m bd bap) (hl : l.length ≤ 16777216) (hm : m.length ≤ 16777216) : Ret Tryd.prog 93 [ptr p, ptr q] w (fun v w' => v = .bool (l.any fun x => decide (x ∈ m)) ∧ Sm w w') := by
  refine enter Tryd.call93 Tryd.func93 rfl rfl rfl rfl ?_
  (repeat first|refine zA ?_|refine zB ?_|refine zC ?_|refine zD ?_|refine zE ?_|refine zg ?_|refine zo rfl rfl (by first|exact trivial|(simp only[AllP];omega)|(simp(discharger:=omega)only[AllP,cA,cB];omega)|(simp only[AllP,cC,cD,cE,cF,cG];omega)) ?_|refine zn ?_|refine zb ?_|refine ze rfl ?_|refine zr ?_|refine zk ?_|refine zT rfl rfl rfl ?_|refine zU rfl rfl rfl ?_|refine zV rfl rfl rfl ?_|refine zf rfl ?_|refine zt rfl ?_)
  refine r_loop (α := Nat) [0, 1, 5] (fun i => [ptr p, ptr q, I i]) (fun i w1 => Sm w w1 ∧ i ≤ l.length ∧ ∀ x ∈ l.take i, ¬ x ∈ m) (fun i => l.length - i) 0 rfl ⟨Sm.refl _, by omega, by simp⟩ ?_
  rintro i e w1 ⟨hs1, hi, hall⟩
  have h1 := h.sm hs1
  have k1 := k.sm hs1
  (repeat first|refine zA ?_|refine zB ?_|refine zC ?_|refine zD ?_|refine zE ?_|refine zg ?_|refine zo rfl rfl (by first|exact trivial|(simp only[AllP];omega)|(simp(discharger:=omega)only[AllP,cA,cB];omega)|(simp only[AllP,cC,cD,cE,cF,cG];omega)) ?_|refine zn ?_|refine zb ?_|refine ze rfl ?_|refine zr ?_|refine zk ?_|refine zT rfl rfl rfl ?_|refine zU rfl rfl rfl ?_|refine zV rfl rfl rfl ?_|refine zf rfl ?_|refine zt rfl ?_)
  refine o_load rfl h1.hdr rfl rfl rfl rfl rfl ?_
  (repeat first|refine zA ?_|refine zB ?_|refine zC ?_|refine zD ?_|refine zE ?_|refine zg ?_|refine zo rfl rfl (by first|exact trivial|(simp only[AllP];omega)|(simp(discharger:=omega)only[AllP,cA,cB];omega)|(simp only[AllP,cC,cD,cE,cF,cG];omega)) ?_|refine zn ?_|refine zb ?_|refine ze rfl ?_|refine zr ?_|refine zk ?_|refine zT rfl rfl rfl ?_|refine zU rfl rfl rfl ?_|refine zV rfl rfl rfl ?_|refine zf rfl ?_|refine zt rfl ?_)
  refine r_if rfl (fun hc => ?_) (fun hc => ?_)
  · have hlt : i < l.length := by omega
    obtain ⟨x, hx⟩ : ∃ x, l[i]? = some x := ⟨_, List.getElem?_eq_getElem hlt⟩
    have htk : l.take (i + 1) = l.take i ++ [x] := by rw [List.take_add_one, hx]; rfl
    obtain ⟨b, o, hae, hbl, hcell⟩ := h1.own.read.at_ (by simp; omega)
    have hh := h1.hdr
    rw [hae] at hh
    have hcx : ∀ w', Sm w1 w' → w'.cell? ⟨b, o + i, none⟩ = some (I (x : Int)) := fun w' hk => by
      rw [← hcell i _ (by rw [List.getElem?_map, hx]; rfl)]
      exact World.cell?_of_block (by rw [hk.heap])
    (repeat first|refine zA ?_|refine zB ?_|refine zC ?_|refine zD ?_|refine zE ?_|refine zg ?_|refine zo rfl rfl (by first|exact trivial|(simp only[AllP];omega)|(simp(discharger:=omega)only[AllP,cA,cB];omega)|(simp only[AllP,cC,cD,cE,cF,cG];omega)) ?_|refine zn ?_|refine zb ?_|refine ze rfl ?_|refine zr ?_|refine zk ?_|refine zT rfl rfl rfl ?_|refine zU rfl rfl rfl ?_|refine zV rfl rfl rfl ?_|refine zf rfl ?_|refine zt rfl ?_)
    refine r_seq ?_
    refine r_quietS follows_mixed (by kernel_rfl) ?_
    (repeat first|refine yo rfl rfl (by first|exact trivial|(simp only[AllP];omega)|(simp(discharger:=omega)only[AllP,cA,cB];omega)|(simp only[AllP,cC,cD,cE,cF,cG];omega)) ?_|refine yn ?_|refine q_know _ _ (some true) rfl rfl rfl ?_|refine q_know _ _ (some false) rfl rfl rfl ?_|refine q_know _ _ none rfl rfl rfl ?_)
    refine q_load rfl (fun w hs => (hs.blk k1.hdr).cell rfl) rfl rfl rfl rfl ?_
    (repeat first|refine yo rfl rfl (by first|exact trivial|(simp only[AllP];omega)|(simp(discharger:=omega)only[AllP,cA,cB];omega)|(simp only[AllP,cC,cD,cE,cF,cG];omega)) ?_|refine yn ?_|refine q_know _ _ (some true) rfl rfl rfl ?_|refine q_know _ _ (some false) rfl rfl rfl ?_|refine q_know _ _ none rfl rfl rfl ?_)
    refine q_load rfl (fun w hs => (hs.blk hh).cell rfl) rfl rfl rfl rfl ?_
    (repeat first|refine yo rfl rfl (by first|exact trivial|(simp only[AllP];omega)|(simp(discharger:=omega)only[AllP,cA,cB];omega)|(simp only[AllP,cC,cD,cE,cF,cG];omega)) ?_|refine yn ?_|refine q_know _ _ (some true) rfl rfl rfl ?_|refine q_know _ _ (some false) rfl rfl rfl ?_|refine q_know _ _ none rfl rfl rfl ?_)
    refine q_load rfl hcx rfl rfl rfl rfl ?_
    (repeat first|refine yo rfl rfl (by first|exact trivial|(simp only[AllP];omega)|(simp(discharger:=omega)only[AllP,cA,cB];omega)|(simp only[AllP,cC,cD,cE,cF,cG];omega)) ?_|refine yn ?_|refine q_know _ _ (some true) rfl rfl rfl ?_|refine q_know _ _ (some false) rfl rfl rfl ?_|refine q_know _ _ none rfl rfl rfl ?_)
    refine q_call (.bool (decide (x ∈ m))) (in_q k1.own.read (fun b hb => k1.lt b (by simp [hb])) hm) Tryd.call75 rfl rfl rfl ?_
    (repeat first|refine yo rfl rfl (by first|exact trivial|(simp only[AllP];omega)|(simp(discharger:=omega)only[AllP,cA,cB];omega)|(simp only[AllP,cC,cD,cE,cF,cG];omega)) ?_|refine yn ?_|refine q_know _ _ (some true) rfl rfl rfl ?_|refine q_know _ _ (some false) rfl rfl rfl ?_|refine q_know _ _ none rfl rfl rfl ?_)
    intro w2 hs2
    refine r_if (p := x ∈ m) rfl (fun hin => ?_) (fun hne => ?_)
    · (repeat first|refine zA ?_|refine zB ?_|refine zC ?_|refine zD ?_|refine zE ?_|refine zg ?_|refine zo rfl rfl (by first|exact trivial|(simp only[AllP];omega)|(simp(discharger:=omega)only[AllP,cA,cB];omega)|(simp only[AllP,cC,cD,cE,cF,cG];omega)) ?_|refine zn ?_|refine zb ?_|refine ze rfl ?_|refine zr ?_|refine zk ?_|refine zT rfl rfl rfl ?_|refine zU rfl rfl rfl ?_|refine zV rfl rfl rfl ?_|refine zf rfl ?_|refine zt rfl ?_)
      refine ⟨_, rfl, ?_, hs1.trans hs2⟩
      have : l.any (fun x => decide (x ∈ m)) = true := List.any_eq_true.2 ⟨x, List.mem_of_getElem? hx, by simpa using hin⟩
      rw [this]
    · (repeat first|refine zA ?_|refine zB ?_|refine zC ?_|refine zD ?_|refine zE ?_|refine zg ?_|refine zo rfl rfl (by first|exact trivial|(simp only[AllP];omega)|(simp(discharger:=omega)only[AllP,cA,cB];omega)|(simp only[AllP,cC,cD,cE,cF,cG];omega)) ?_|refine zn ?_|refine zb ?_|refine ze rfl ?_|refine zr ?_|refine zk ?_|refine zT rfl rfl rfl ?_|refine zU rfl rfl rfl ?_|refine zV rfl rfl rfl ?_|refine zf rfl ?_|refine zt rfl ?_)
      refine ⟨i + 1, rfl, ⟨hs1.trans hs2, by omega, fun y hy => ?_⟩, by omega⟩
      rw [htk] at hy
      rcases List.mem_append.1 hy with hy | hy
      · exact hall y hy
      · simp at hy; rw [hy]; exact hne
  · have hie : i = l.length := by omega
    subst hie
    rw [List.take_length] at hall
    (repeat first|refine zA ?_|refine zB ?_|refine zC ?_|refine zD ?_|refine zE ?_|refine zg ?_|refine zo rfl rfl (by first|exact trivial|(simp only[AllP];omega)|(simp(discharger:=omega)only[AllP,cA,cB];omega)|(simp only[AllP,cC,cD,cE,cF,cG];omega)) ?_|refine zn ?_|refine zb ?_|refine ze rfl ?_|refine zr ?_|refine zk ?_|refine zT rfl rfl rfl ?_|refine zU rfl rfl rfl ?_|refine zV rfl rfl rfl ?_|refine zf rfl ?_|refine zt rfl ?_)
    refine ⟨_, rfl, ?_, hs1⟩
    have : l.any (fun x => decide (x ∈ m)) = false := List.any_eq_false.2 fun x hx => by simpa using hall x hx
    rw [this]

theorem refEqual_nil (o : Option Nat) : Ret Tryd.prog 91 [.pointer none, optr o] w (fun v w' => v = .bool false ∧ w' = w) := by
  refine enter Tryd.call91 Tryd.func91 rfl rfl rfl rfl ?_
  cases o
  all_goals simp only [optr]
  all_goals (repeat first|refine zA ?_|refine zB ?_|refine zC ?_|refine zD ?_|refine zE ?_|refine zg ?_|refine zo rfl rfl (by first|exact trivial|(simp only[AllP];omega)|(simp(discharger:=omega)only[AllP,cA,cB];omega)|(simp only[AllP,cC,cD,cE,cF,cG];omega)) ?_|refine zn ?_|refine zb ?_|refine ze rfl ?_|refine zr ?_|refine zk ?_|refine zT rfl rfl rfl ?_|refine zU rfl rfl rfl ?_|refine zV rfl rfl rfl ?_|refine zf rfl ?_|refine zt rfl ?_)
  all_goals refine o_call (refWithin_nil _) rfl rfl rfl ?_
  all_goals rintro v w1 ⟨rfl, rfl⟩
  all_goals (repeat first|refine zA ?_|refine zB ?_|refine zC ?_|refine zD ?_|refine zE ?_|refine zg ?_|refine zo rfl rfl (by first|exact trivial|(simp only[AllP];omega)|(simp(discharger:=omega)only[AllP,cA,cB];omega)|(simp only[AllP,cC,cD,cE,cF,cG];omega)) ?_|refine zn ?_|refine zb ?_|refine ze rfl ?_|refine zr ?_|refine zk ?_|refine zT rfl rfl rfl ?_|refine zU rfl rfl rfl ?_|refine zV rfl rfl rfl ?_|refine zf rfl ?_|refine zt rfl ?_)
  all_goals exact ⟨_, rfl, rfl, rfl⟩
theorem refEqual_nil2 : Ret Tryd.prog 91 [ptr p, .pointer none] w (fun v w' => v = .bool false ∧ w' = w) := by
  refine enter Tryd.call91 Tryd.func91 rfl rfl rfl rfl ?_
  (repeat first|refine zA ?_|refine zB ?_|refine zC ?_|refine zD ?_|refine zE ?_|refine zg ?_|refine zo rfl rfl (by first|exact trivial|(simp only[AllP];omega)|(simp(discharger:=omega)only[AllP,cA,cB];omega)|(simp only[AllP,cC,cD,cE,cF,cG];omega)) ?_|refine zn ?_|refine zb ?_|refine ze rfl ?_|refine zr ?_|refine zk ?_|refine zT rfl rfl rfl ?_|refine zU rfl rfl rfl ?_|refine zV rfl rfl rfl ?_|refine zf rfl ?_|refine zt rfl ?_)
  refine o_call refWithin_nil2 rfl rfl rfl ?_
  rintro v w1 ⟨rfl, rfl⟩
  (repeat first|refine zA ?_|refine zB ?_|refine zC ?_|refine zD ?_|refine zE ?_|refine zg ?_|refine zo rfl rfl (by first|exact trivial|(simp only[AllP];omega)|(simp(discharger:=omega)only[AllP,cA,cB];omega)|(simp only[AllP,cC,cD,cE,cF,cG];omega)) ?_|refine zn ?_|refine zb ?_|refine ze rfl ?_|refine zr ?_|refine zk ?_|refine zT rfl rfl rfl ?_|refine zU rfl rfl rfl ?_|refine zV rfl rfl rfl ?_|refine zf rfl ?_|refine zt rfl ?_)
  exact ⟨_, rfl, rfl, rfl⟩
theorem refEqual_ret (h : RefAt w p l ad cap) (k : RefAt w q m bd bap) (hl : Ris l) (hm : Ris m) : Ret Tryd.prog 91 [ptr p, ptr q] w (fun v w' => v = .bool (decide (l = m)) ∧ Sm w w') := by
  have ll := hl.len
  have lm := hm.len
  refine enter Tryd.call91 Tryd.func91 rfl rfl rfl rfl ?_
  (repeat first|refine zA ?_|refine zB ?_|refine zC ?_|refine zD ?_|refine zE ?_|refine zg ?_|refine zo rfl rfl (by first|exact trivial|(simp only[AllP];omega)|(simp(discharger:=omega)only[AllP,cA,cB];omega)|(simp only[AllP,cC,cD,cE,cF,cG];omega)) ?_|refine zn ?_|refine zb ?_|refine ze rfl ?_|refine zr ?_|refine zk ?_|refine zT rfl rfl rfl ?_|refine zU rfl rfl rfl ?_|refine zV rfl rfl rfl ?_|refine zf rfl ?_|refine zt rfl ?_)
  refine o_call (refWithin_ret h k (by omega) (by omega)) rfl rfl rfl ?_
  rintro v w1 ⟨rfl, hs1⟩
  cases h1 : l.all (fun x => decide (x ∈ m)) with
  | false =>
    (repeat first|refine zA ?_|refine zB ?_|refine zC ?_|refine zD ?_|refine zE ?_|refine zg ?_|refine zo rfl rfl (by first|exact trivial|(simp only[AllP];omega)|(simp(discharger:=omega)only[AllP,cA,cB];omega)|(simp only[AllP,cC,cD,cE,cF,cG];omega)) ?_|refine zn ?_|refine zb ?_|refine ze rfl ?_|refine zr ?_|refine zk ?_|refine zT rfl rfl rfl ?_|refine zU rfl rfl rfl ?_|refine zV rfl rfl rfl ?_|refine zf rfl ?_|refine zt rfl ?_)
    refine ⟨_, rfl, ?_, hs1⟩
    rw [decide_eq_false]
    rintro rfl
    rw [List.all_eq_false] at h1
    obtain ⟨x, hx, h2⟩ := h1
    exact h2 (by simpa using hx)
  | true =>
    (repeat first|refine zA ?_|refine zB ?_|refine zC ?_|refine zD ?_|refine zE ?_|refine zg ?_|refine zo rfl rfl (by first|exact trivial|(simp only[AllP];omega)|(simp(discharger:=omega)only[AllP,cA,cB];omega)|(simp only[AllP,cC,cD,cE,cF,cG];omega)) ?_|refine zn ?_|refine zb ?_|refine ze rfl ?_|refine zr ?_|refine zk ?_|refine zT rfl rfl rfl ?_|refine zU rfl rfl rfl ?_|refine zV rfl rfl rfl ?_|refine zf rfl ?_|refine zt rfl ?_)
    refine o_call (refWithin_ret (k.sm hs1) (h.sm hs1) (by omega) (by omega)) rfl rfl rfl ?_
    rintro v w2 ⟨rfl, hs2⟩
    (repeat first|refine zA ?_|refine zB ?_|refine zC ?_|refine zD ?_|refine zE ?_|refine zg ?_|refine zo rfl rfl (by first|exact trivial|(simp only[AllP];omega)|(simp(discharger:=omega)only[AllP,cA,cB];omega)|(simp only[AllP,cC,cD,cE,cF,cG];omega)) ?_|refine zn ?_|refine zb ?_|refine ze rfl ?_|refine zr ?_|refine zk ?_|refine zT rfl rfl rfl ?_|refine zU rfl rfl rfl ?_|refine zV rfl rfl rfl ?_|refine zf rfl ?_|refine zt rfl ?_)
    refine ⟨_, rfl, ?_, hs1.trans hs2⟩
    congr 1
    rw [Bool.eq_iff_iff, List.all_eq_true, decide_eq_true_eq]
    rw [List.all_eq_true] at h1
    refine ⟨fun h2 => sorted_ext hl.sorted hm.sorted fun x => ⟨fun hx => by simpa using h1 x hx, fun hx => by simpa using h2 x hx⟩, ?_⟩
    rintro rfl
    exact h1

/-! ### merged -/
def mergeF (l m : List Nat) (b1 b2 : Bool) : List Nat := l.filter fun x => if decide (x ∈ m) = true then b1 else b2
def mergeStep (l : List Nat) (b3 : Bool) (out : List Nat) (y : Nat) : List Nat := if (b3 && !decide (y ∈ l)) = true then withL out y else out
def mergeL (l m : List Nat) (b1 b2 b3 : Bool) : List Nat := m.foldl (mergeStep l b3) (mergeF l m b1 b2)
theorem ris_foldl {l m : List Nat} {b3 : Bool} (hm : ∀ x ∈ m, x < 1048576) : ∀ {out : List Nat}, Ris out → Ris (m.foldl (mergeStep l b3) out) := by
  induction m with
  | nil => exact fun h => h
  | cons y r ih =>
    intro out h
    refine ih (fun x hx => hm x (by simp [hx])) ?_
    unfold mergeStep
    split
    · exact h.put (hm y (by simp))
    · exact h
theorem ris_mergeL {l m : List Nat} (hl : Ris l) (hm : Ris m) (b1 b2 b3 : Bool) : Ris (mergeL l m b1 b2 b3) := ris_foldl hm.lt (hl.filter _)
theorem mem_foldl {l : List Nat} {b3 : Bool} {x : Nat} : ∀ {m out : List Nat}, x ∈ m.foldl (mergeStep l b3) out ↔ x ∈ out ∨ (b3 = true ∧ x ∈ m ∧ ¬ x ∈ l) := by
  intro m
  induction m with
  | nil => simp
  | cons y r ih =>
    intro out
    rw [List.foldl_cons, ih]
    unfold mergeStep
    cases b3 with
    | false => simp
    | true =>
      by_cases hy : y ∈ l
      · simp only [hy, decide_true, Bool.not_true, Bool.and_false, Bool.false_eq_true, if_false, List.mem_cons]
        constructor
        · rintro (h | ⟨_, h1, h2⟩)
          · exact .inl h
          · exact .inr ⟨trivial, .inr h1, h2⟩
        · rintro (h | ⟨_, rfl | h1, h2⟩)
          · exact .inl h
          · exact absurd hy h2
          · exact .inr ⟨trivial, h1, h2⟩
      · simp only [hy, decide_false, Bool.not_false, Bool.and_true, if_true, List.mem_cons, mem_withL]
        constructor
        · rintro ((h | rfl) | ⟨_, h1, h2⟩)
          · exact .inl h
          · exact .inr ⟨trivial, .inl rfl, hy⟩
          · exact .inr ⟨trivial, .inr h1, h2⟩
        · rintro (h | ⟨_, rfl | h1, h2⟩)
          · exact .inl (.inl h)
          · exact .inl (.inr rfl)
          · exact .inr ⟨trivial, h1, h2⟩
theorem mem_mergeL {l m : List Nat} {b1 b2 b3 : Bool} {x : Nat} : x ∈ mergeL l m b1 b2 b3 ↔ (x ∈ l ∧ (if x ∈ m then b1 else b2) = true) ∨ (b3 = true ∧ x ∈ m ∧ ¬ x ∈ l) := by
  unfold mergeL mergeF
  rw [mem_foldl, List.mem_filter]
  simp

theorem merged_nil (v : Value) (b1 b2 b3 : Bool) : Ret Tryd.prog 98 [.pointer none, v, .bool b1, .bool b2, .bool b3] w (fun v w' => v = I 1 ∧ w' = w) := by
  refine enter Tryd.call98 Tryd.func98 rfl rfl rfl rfl ?_
  (repeat first|refine zA ?_|refine zB ?_|refine zC ?_|refine zD ?_|refine zE ?_|refine zg ?_|refine zo rfl rfl (by first|exact trivial|(simp only[AllP];omega)|(simp(discharger:=omega)only[AllP,cA,cB];omega)|(simp only[AllP,cC,cD,cE,cF,cG];omega)) ?_|refine zn ?_|refine zb ?_|refine ze rfl ?_|refine zr ?_|refine zk ?_|refine zT rfl rfl rfl ?_|refine zU rfl rfl rfl ?_|refine zV rfl rfl rfl ?_|refine zf rfl ?_|refine zt rfl ?_)
  exact ⟨_, rfl, rfl, rfl⟩
theorem merged_nil2 (b1 b2 b3 : Bool) : Ret Tryd.prog 98 [ptr p, .pointer none, .bool b1, .bool b2, .bool b3] w (fun v w' => v = I 1 ∧ w' = w) := by
  refine enter Tryd.call98 Tryd.func98 rfl rfl rfl rfl ?_
  (repeat first|refine zA ?_|refine zB ?_|refine zC ?_|refine zD ?_|refine zE ?_|refine zg ?_|refine zo rfl rfl (by first|exact trivial|(simp only[AllP];omega)|(simp(discharger:=omega)only[AllP,cA,cB];omega)|(simp only[AllP,cC,cD,cE,cF,cG];omega)) ?_|refine zn ?_|refine zb ?_|refine ze rfl ?_|refine zr ?_|refine zk ?_|refine zT rfl rfl rfl ?_|refine zU rfl rfl rfl ?_|refine zV rfl rfl rfl ?_|refine zf rfl ?_|refine zt rfl ?_)
  exact ⟨_, rfl, rfl, rfl⟩
set_option maxHeartbeats 1600000 in
theorem merged_ret (hT : TabW w) (h : RefAt w p l ad cap) (k : RefAt w q m bd bap) (hl : Ris l) (hm : Ris m) (b1 b2 b3 : Bool) : Ret Tryd.prog 98 [ptr p, ptr q, .bool b1, .bool b2, .bool b3] w (fun v w' => v = I 0 ∧ ∃ ad' cap', RefTo w p ad w' (mergeL l m b1 b2 b3) ad' cap') := by
  have ll := hl.len
  have lm := hm.len
  refine enter Tryd.call98 Tryd.func98 rfl rfl rfl rfl ?_
  (repeat first|refine zA ?_|refine zB ?_|refine zC ?_|refine zD ?_|refine zE ?_|refine zg ?_|refine zo rfl rfl (by first|exact trivial|(simp only[AllP];omega)|(simp(discharger:=omega)only[AllP,cA,cB];omega)|(simp only[AllP,cC,cD,cE,cF,cG];omega)) ?_|refine zn ?_|refine zb ?_|refine ze rfl ?_|refine zr ?_|refine zk ?_|refine zT rfl rfl rfl ?_|refine zU rfl rfl rfl ?_|refine zV rfl rfl rfl ?_|refine zf rfl ?_|refine zt rfl ?_)
  refine r_loop (α := Nat × List Nat × Option Addr × Nat) [0, 1, 2, 3, 4, 11, 12] (fun g => [ptr p, ptr q, .bool b1, .bool b2, .bool b3, .slice g.2.2.1 g.2.1.length g.2.2.2, I g.1])
    (fun g w1 => NewS w 3 w1 g.2.2.1 g.2.1.length g.2.2.2 (g.2.1.map encI) ∧ g.1 ≤ l.length ∧ g.2.1 = mergeF (l.take g.1) m b1 b2) (fun g => l.length - g.1) (0, [], none, 0) rfl ⟨⟨ownS_nil _ _ _, Kp.refl _ _, by simp [blkOf]⟩, by omega, by simp [mergeF]⟩ ?_
  rintro ⟨i, out, ad1, cap1⟩ e w1 ⟨hN, hi, ho⟩
  dsimp only at hN hi ho ⊢
  have hol : out.length ≤ l.length := by
    rw [ho]
    refine Nat.le_trans (List.length_filter_le _ _) ?_
    rw [List.length_take]; omega
  have h1 := h.kp hN.kp (by simp)
  have k1 := k.kp hN.kp (by simp)
  (repeat first|refine zA ?_|refine zB ?_|refine zC ?_|refine zD ?_|refine zE ?_|refine zg ?_|refine zo rfl rfl (by first|exact trivial|(simp only[AllP];omega)|(simp(discharger:=omega)only[AllP,cA,cB];omega)|(simp only[AllP,cC,cD,cE,cF,cG];omega)) ?_|refine zn ?_|refine zb ?_|refine ze rfl ?_|refine zr ?_|refine zk ?_|refine zT rfl rfl rfl ?_|refine zU rfl rfl rfl ?_|refine zV rfl rfl rfl ?_|refine zf rfl ?_|refine zt rfl ?_)
  refine o_load rfl h1.hdr rfl rfl rfl rfl rfl ?_
  (repeat first|refine zA ?_|refine zB ?_|refine zC ?_|refine zD ?_|refine zE ?_|refine zg ?_|refine zo rfl rfl (by first|exact trivial|(simp only[AllP];omega)|(simp(discharger:=omega)only[AllP,cA,cB];omega)|(simp only[AllP,cC,cD,cE,cF,cG];omega)) ?_|refine zn ?_|refine zb ?_|refine ze rfl ?_|refine zr ?_|refine zk ?_|refine zT rfl rfl rfl ?_|refine zU rfl rfl rfl ?_|refine zV rfl rfl rfl ?_|refine zf rfl ?_|refine zt rfl ?_)
  refine r_if rfl (fun hc => ?_) (fun hc => ?_)
  · have hlt : i < l.length := by omega
    obtain ⟨x, hx⟩ : ∃ x, l[i]? = some x := ⟨_, List.getElem?_eq_getElem hlt⟩
    have htk : l.take (i + 1) = l.take i ++ [x] := by rw [List.take_add_one, hx]; rfl
    obtain ⟨b, o, hae, hbl, hcell⟩ := h1.own.read.at_ (by simp; omega)
    have hh := h1.hdr
    rw [hae] at hh
    have hcx : ∀ w', Sm w1 w' → w'.cell? ⟨b, o + i, none⟩ = some (I (x : Int)) := fun w' hk => by
      rw [← hcell i _ (by rw [List.getElem?_map, hx]; rfl)]
      exact World.cell?_of_block (by rw [hk.heap])
    have e2 : mergeF (l.take (i + 1)) m b1 b2 = out ++ if (if decide (x ∈ m) = true then b1 else b2) = true then [x] else [] := by
      rw [htk, ho]
      unfold mergeF
      rw [List.filter_append]
      congr 1
      simp only [List.filter_cons, List.filter_nil]
    (repeat first|refine zA ?_|refine zB ?_|refine zC ?_|refine zD ?_|refine zE ?_|refine zg ?_|refine zo rfl rfl (by first|exact trivial|(simp only[AllP];omega)|(simp(discharger:=omega)only[AllP,cA,cB];omega)|(simp only[AllP,cC,cD,cE,cF,cG];omega)) ?_|refine zn ?_|refine zb ?_|refine ze rfl ?_|refine zr ?_|refine zk ?_|refine zT rfl rfl rfl ?_|refine zU rfl rfl rfl ?_|refine zV rfl rfl rfl ?_|refine zf rfl ?_|refine zt rfl ?_)
    refine r_seq ?_
    refine r_quietS follows_mixed (by kernel_rfl) ?_
    (repeat first|refine yo rfl rfl (by first|exact trivial|(simp only[AllP];omega)|(simp(discharger:=omega)only[AllP,cA,cB];omega)|(simp only[AllP,cC,cD,cE,cF,cG];omega)) ?_|refine yn ?_|refine q_know _ _ (some true) rfl rfl rfl ?_|refine q_know _ _ (some false) rfl rfl rfl ?_|refine q_know _ _ none rfl rfl rfl ?_)
    refine q_load rfl (fun w hs => (hs.blk k1.hdr).cell rfl) rfl rfl rfl rfl ?_
    (repeat first|refine yo rfl rfl (by first|exact trivial|(simp only[AllP];omega)|(simp(discharger:=omega)only[AllP,cA,cB];omega)|(simp only[AllP,cC,cD,cE,cF,cG];omega)) ?_|refine yn ?_|refine q_know _ _ (some true) rfl rfl rfl ?_|refine q_know _ _ (some false) rfl rfl rfl ?_|refine q_know _ _ none rfl rfl rfl ?_)
    refine q_load rfl (fun w hs => (hs.blk hh).cell rfl) rfl rfl rfl rfl ?_
    (repeat first|refine yo rfl rfl (by first|exact trivial|(simp only[AllP];omega)|(simp(discharger:=omega)only[AllP,cA,cB];omega)|(simp only[AllP,cC,cD,cE,cF,cG];omega)) ?_|refine yn ?_|refine q_know _ _ (some true) rfl rfl rfl ?_|refine q_know _ _ (some false) rfl rfl rfl ?_|refine q_know _ _ none rfl rfl rfl ?_)
    refine q_load rfl hcx rfl rfl rfl rfl ?_
    (repeat first|refine yo rfl rfl (by first|exact trivial|(simp only[AllP];omega)|(simp(discharger:=omega)only[AllP,cA,cB];omega)|(simp only[AllP,cC,cD,cE,cF,cG];omega)) ?_|refine yn ?_|refine q_know _ _ (some true) rfl rfl rfl ?_|refine q_know _ _ (some false) rfl rfl rfl ?_|refine q_know _ _ none rfl rfl rfl ?_)
    refine q_call (.bool (decide (x ∈ m))) (in_q k1.own.read (fun b hb => k1.lt b (by simp [hb])) (by omega)) Tryd.call75 rfl rfl rfl ?_
    (repeat first|refine yo rfl rfl (by first|exact trivial|(simp only[AllP];omega)|(simp(discharger:=omega)only[AllP,cA,cB];omega)|(simp only[AllP,cC,cD,cE,cF,cG];omega)) ?_|refine yn ?_|refine q_know _ _ (some true) rfl rfl rfl ?_|refine q_know _ _ (some false) rfl rfl rfl ?_|refine q_know _ _ none rfl rfl rfl ?_)
    intro w2 hs2
    generalize decide (x ∈ m) = is at e2 ⊢
    refine r_seq ?_
    refine r_cut (α := Unit) [0, 1, 2, 3, 4, 11, 12, 52] (fun _ => [ptr p, ptr q, .bool b1, .bool b2, .bool b3, .slice ad1 out.length cap1, I i, .bool (if is = true then b1 else b2)]) (fun _ w3 => w3 = w2) ?_ ?_
    · cases is <;> cases b1 <;> cases b2
      all_goals (repeat first|refine zA ?_|refine zB ?_|refine zC ?_|refine zD ?_|refine zE ?_|refine zg ?_|refine zo rfl rfl (by first|exact trivial|(simp only[AllP];omega)|(simp(discharger:=omega)only[AllP,cA,cB];omega)|(simp only[AllP,cC,cD,cE,cF,cG];omega)) ?_|refine zn ?_|refine zb ?_|refine ze rfl ?_|refine zr ?_|refine zk ?_|refine zT rfl rfl rfl ?_|refine zU rfl rfl rfl ?_|refine zV rfl rfl rfl ?_|refine zf rfl ?_|refine zt rfl ?_)
      all_goals exact ⟨(), rfl, rfl⟩
    rintro _ e w3 rfl
    have hs0 := hN.kp.trans (hs2.kp [])
    cases hg : (if is = true then b1 else b2) with
    | false =>
      rw [hg] at e2
      (repeat first|refine zA ?_|refine zB ?_|refine zC ?_|refine zD ?_|refine zE ?_|refine zg ?_|refine zo rfl rfl (by first|exact trivial|(simp only[AllP];omega)|(simp(discharger:=omega)only[AllP,cA,cB];omega)|(simp only[AllP,cC,cD,cE,cF,cG];omega)) ?_|refine zn ?_|refine zb ?_|refine ze rfl ?_|refine zr ?_|refine zk ?_|refine zT rfl rfl rfl ?_|refine zU rfl rfl rfl ?_|refine zV rfl rfl rfl ?_|refine zf rfl ?_|refine zt rfl ?_)
      refine ⟨(i + 1, out, ad1, cap1), rfl, ⟨⟨hN.own.kp (hs2.kp []) (by simp), hs0, hN.new⟩, by dsimp only; omega, ?_⟩, by dsimp only; omega⟩
      dsimp only; rw [e2]; simp
    | true =>
      rw [hg] at e2
      (repeat first|refine zA ?_|refine zB ?_|refine zC ?_|refine zD ?_|refine zE ?_|refine zg ?_|refine zo rfl rfl (by first|exact trivial|(simp only[AllP];omega)|(simp(discharger:=omega)only[AllP,cA,cB];omega)|(simp only[AllP,cC,cD,cE,cF,cG];omega)) ?_|refine zn ?_|refine zb ?_|refine ze rfl ?_|refine zr ?_|refine zk ?_|refine zT rfl rfl rfl ?_|refine zU rfl rfl rfl ?_|refine zV rfl rfl rfl ?_|refine zf rfl ?_|refine zt rfl ?_)
      refine o_load rfl (hs2.blk hh) rfl rfl rfl rfl rfl ?_
      (repeat first|refine zA ?_|refine zB ?_|refine zC ?_|refine zD ?_|refine zE ?_|refine zg ?_|refine zo rfl rfl (by first|exact trivial|(simp only[AllP];omega)|(simp(discharger:=omega)only[AllP,cA,cB];omega)|(simp only[AllP,cC,cD,cE,cF,cG];omega)) ?_|refine zn ?_|refine zb ?_|refine ze rfl ?_|refine zr ?_|refine zk ?_|refine zT rfl rfl rfl ?_|refine zU rfl rfl rfl ?_|refine zV rfl rfl rfl ?_|refine zf rfl ?_|refine zt rfl ?_)
      refine o_loadc rfl (hcx w3 hs2) rfl rfl rfl rfl ?_
      (repeat first|refine zA ?_|refine zB ?_|refine zC ?_|refine zD ?_|refine zE ?_|refine zg ?_|refine zo rfl rfl (by first|exact trivial|(simp only[AllP];omega)|(simp(discharger:=omega)only[AllP,cA,cB];omega)|(simp only[AllP,cC,cD,cE,cF,cG];omega)) ?_|refine zn ?_|refine zb ?_|refine ze rfl ?_|refine zr ?_|refine zk ?_|refine zT rfl rfl rfl ?_|refine zU rfl rfl rfl ?_|refine zV rfl rfl rfl ?_|refine zf rfl ?_|refine zt rfl ?_)
      refine o_buildSlice [I (x : Int)] rfl (by simp [Value.oneCell']) rfl (by decide) (by decide) rfl rfl rfl rfl rfl ?_
      intro b3' w4 hb4 hu4
      have k4 : Kp [] w3 w4 := hu4.kp [] (.inr (by omega))
      refine o_append1 rfl rfl (hN.own.kp ((hs2.kp []).trans k4) (by simp)) hu4.blk rfl rfl rfl rfl (by simp only [maxLen]; omega) (by omega) rfl rfl ?_
      intro ad5 cap5 w5 ho5 k5 hnew5
      (repeat first|refine zA ?_|refine zB ?_|refine zC ?_|refine zD ?_|refine zE ?_|refine zg ?_|refine zo rfl rfl (by first|exact trivial|(simp only[AllP];omega)|(simp(discharger:=omega)only[AllP,cA,cB];omega)|(simp only[AllP,cC,cD,cE,cF,cG];omega)) ?_|refine zn ?_|refine zb ?_|refine ze rfl ?_|refine zr ?_|refine zk ?_|refine zT rfl rfl rfl ?_|refine zU rfl rfl rfl ?_|refine zV rfl rfl rfl ?_|refine zf rfl ?_|refine zt rfl ?_)
      have hp := hN.push ((hs2.kp []).trans k4) ho5 k5 hnew5
      refine ⟨(i + 1, out ++ [x], ad5, cap5), ?_, ⟨?_, by dsimp only; omega, ?_⟩, by dsimp only; omega⟩
      · dsimp only; rw [List.length_append]; rfl
      · simpa [encI] using hp
      · dsimp only; rw [e2]; simp
  have hil : i = l.length := by omega
  subst hil
  rw [List.take_length] at ho
  (repeat first|refine zA ?_|refine zB ?_|refine zC ?_|refine zD ?_|refine zE ?_|refine zg ?_|refine zo rfl rfl (by first|exact trivial|(simp only[AllP];omega)|(simp(discharger:=omega)only[AllP,cA,cB];omega)|(simp only[AllP,cC,cD,cE,cF,cG];omega)) ?_|refine zn ?_|refine zb ?_|refine ze rfl ?_|refine zr ?_|refine zk ?_|refine zT rfl rfl rfl ?_|refine zU rfl rfl rfl ?_|refine zV rfl rfl rfl ?_|refine zf rfl ?_|refine zt rfl ?_)
  have hr0 : Ris out := by rw [ho]; exact hl.filter _
  refine r_loop (α := Nat × List Nat × Option Addr × Nat) [0, 1, 4, 11, 14] (fun g => [ptr p, ptr q, .bool b3, .slice g.2.2.1 g.2.1.length g.2.2.2, I g.1])
    (fun g w1 => NewS w 3 w1 g.2.2.1 g.2.1.length g.2.2.2 (g.2.1.map encI) ∧ g.1 ≤ m.length ∧ g.2.1 = (m.take g.1).foldl (mergeStep l b3) out) (fun g => m.length - g.1) (0, out, ad1, cap1) rfl ⟨hN, by omega, by simp⟩ ?_
  rintro ⟨j, out2, ad2, cap2⟩ e w2 ⟨hN2, hj, ho2⟩
  dsimp only at hN2 hj ho2 ⊢
  have hr2 : Ris out2 := by rw [ho2]; exact ris_foldl (fun x hx => hm.lt x (List.mem_of_mem_take hx)) hr0
  have hol2 := hr2.len
  have h2 := h.kp hN2.kp (by simp)
  have k2 := k.kp hN2.kp (by simp)
  (repeat first|refine zA ?_|refine zB ?_|refine zC ?_|refine zD ?_|refine zE ?_|refine zg ?_|refine zo rfl rfl (by first|exact trivial|(simp only[AllP];omega)|(simp(discharger:=omega)only[AllP,cA,cB];omega)|(simp only[AllP,cC,cD,cE,cF,cG];omega)) ?_|refine zn ?_|refine zb ?_|refine ze rfl ?_|refine zr ?_|refine zk ?_|refine zT rfl rfl rfl ?_|refine zU rfl rfl rfl ?_|refine zV rfl rfl rfl ?_|refine zf rfl ?_|refine zt rfl ?_)
  refine o_load rfl k2.hdr rfl rfl rfl rfl rfl ?_
  (repeat first|refine zA ?_|refine zB ?_|refine zC ?_|refine zD ?_|refine zE ?_|refine zg ?_|refine zo rfl rfl (by first|exact trivial|(simp only[AllP];omega)|(simp(discharger:=omega)only[AllP,cA,cB];omega)|(simp only[AllP,cC,cD,cE,cF,cG];omega)) ?_|refine zn ?_|refine zb ?_|refine ze rfl ?_|refine zr ?_|refine zk ?_|refine zT rfl rfl rfl ?_|refine zU rfl rfl rfl ?_|refine zV rfl rfl rfl ?_|refine zf rfl ?_|refine zt rfl ?_)
  refine r_if rfl (fun hc2 => ?_) (fun hc2 => ?_)
  · have hlt : j < m.length := by omega
    obtain ⟨y, hy⟩ : ∃ y, m[j]? = some y := ⟨_, List.getElem?_eq_getElem hlt⟩
    have htk : m.take (j + 1) = m.take j ++ [y] := by rw [List.take_add_one, hy]; rfl
    have hyb := hm.lt y (List.mem_of_getElem? hy)
    obtain ⟨b, o, hbe, hbl, hcell⟩ := k2.own.read.at_ (by simp; omega)
    have hh := k2.hdr
    rw [hbe] at hh
    have hcy : ∀ w', Sm w2 w' → w'.cell? ⟨b, o + j, none⟩ = some (I (y : Int)) := fun w' hk => by
      rw [← hcell j _ (by rw [List.getElem?_map, hy]; rfl)]
      exact World.cell?_of_block (by rw [hk.heap])
    have e2 : (m.take (j + 1)).foldl (mergeStep l b3) out = mergeStep l b3 out2 y := by
      rw [htk, List.foldl_append, ← ho2]; rfl
    unfold mergeStep at e2
    (repeat first|refine zA ?_|refine zB ?_|refine zC ?_|refine zD ?_|refine zE ?_|refine zg ?_|refine zo rfl rfl (by first|exact trivial|(simp only[AllP];omega)|(simp(discharger:=omega)only[AllP,cA,cB];omega)|(simp only[AllP,cC,cD,cE,cF,cG];omega)) ?_|refine zn ?_|refine zb ?_|refine ze rfl ?_|refine zr ?_|refine zk ?_|refine zT rfl rfl rfl ?_|refine zU rfl rfl rfl ?_|refine zV rfl rfl rfl ?_|refine zf rfl ?_|refine zt rfl ?_)
    refine r_seq ?_
    refine r_quietS follows_mixed (by kernel_rfl) ?_
    cases b3 with
    | false =>
      (repeat first|refine yo rfl rfl (by first|exact trivial|(simp only[AllP];omega)|(simp(discharger:=omega)only[AllP,cA,cB];omega)|(simp only[AllP,cC,cD,cE,cF,cG];omega)) ?_|refine yn ?_|refine q_know _ _ (some true) rfl rfl rfl ?_|refine q_know _ _ (some false) rfl rfl rfl ?_|refine q_know _ _ none rfl rfl rfl ?_)
      intro w3 hs3
      (repeat first|refine zA ?_|refine zB ?_|refine zC ?_|refine zD ?_|refine zE ?_|refine zg ?_|refine zo rfl rfl (by first|exact trivial|(simp only[AllP];omega)|(simp(discharger:=omega)only[AllP,cA,cB];omega)|(simp only[AllP,cC,cD,cE,cF,cG];omega)) ?_|refine zn ?_|refine zb ?_|refine ze rfl ?_|refine zr ?_|refine zk ?_|refine zT rfl rfl rfl ?_|refine zU rfl rfl rfl ?_|refine zV rfl rfl rfl ?_|refine zf rfl ?_|refine zt rfl ?_)
      rw [if_neg (by simp)] at e2
      exact ⟨(j + 1, out2, ad2, cap2), rfl, ⟨⟨hN2.own.kp (hs3.kp []) (by simp), hN2.kp.trans (hs3.kp []), hN2.new⟩, (by dsimp only; omega), e2.symm⟩, (by dsimp only; omega)⟩
    | true =>
      (repeat first|refine yo rfl rfl (by first|exact trivial|(simp only[AllP];omega)|(simp(discharger:=omega)only[AllP,cA,cB];omega)|(simp only[AllP,cC,cD,cE,cF,cG];omega)) ?_|refine yn ?_|refine q_know _ _ (some true) rfl rfl rfl ?_|refine q_know _ _ (some false) rfl rfl rfl ?_|refine q_know _ _ none rfl rfl rfl ?_)
      refine q_load rfl (fun w hs => (hs.blk h2.hdr).cell rfl) rfl rfl rfl rfl ?_
      (repeat first|refine yo rfl rfl (by first|exact trivial|(simp only[AllP];omega)|(simp(discharger:=omega)only[AllP,cA,cB];omega)|(simp only[AllP,cC,cD,cE,cF,cG];omega)) ?_|refine yn ?_|refine q_know _ _ (some true) rfl rfl rfl ?_|refine q_know _ _ (some false) rfl rfl rfl ?_|refine q_know _ _ none rfl rfl rfl ?_)
      refine q_load rfl (fun w hs => (hs.blk hh).cell rfl) rfl rfl rfl rfl ?_
      (repeat first|refine yo rfl rfl (by first|exact trivial|(simp only[AllP];omega)|(simp(discharger:=omega)only[AllP,cA,cB];omega)|(simp only[AllP,cC,cD,cE,cF,cG];omega)) ?_|refine yn ?_|refine q_know _ _ (some true) rfl rfl rfl ?_|refine q_know _ _ (some false) rfl rfl rfl ?_|refine q_know _ _ none rfl rfl rfl ?_)
      refine q_load rfl hcy rfl rfl rfl rfl ?_
      (repeat first|refine yo rfl rfl (by first|exact trivial|(simp only[AllP];omega)|(simp(discharger:=omega)only[AllP,cA,cB];omega)|(simp only[AllP,cC,cD,cE,cF,cG];omega)) ?_|refine yn ?_|refine q_know _ _ (some true) rfl rfl rfl ?_|refine q_know _ _ (some false) rfl rfl rfl ?_|refine q_know _ _ none rfl rfl rfl ?_)
      refine q_call (.bool (decide (y ∈ l))) (in_q h2.own.read (fun b hb => h2.lt b (by simp [hb])) (by omega)) Tryd.call75 rfl rfl rfl ?_
      (repeat first|refine yo rfl rfl (by first|exact trivial|(simp only[AllP];omega)|(simp(discharger:=omega)only[AllP,cA,cB];omega)|(simp only[AllP,cC,cD,cE,cF,cG];omega)) ?_|refine yn ?_|refine q_know _ _ (some true) rfl rfl rfl ?_|refine q_know _ _ (some false) rfl rfl rfl ?_|refine q_know _ _ none rfl rfl rfl ?_)
      intro w3 hs3
      refine r_ifn (p := y ∈ l) rfl (fun hne => ?_) (fun hin => ?_)
      · rw [if_pos (by simpa using hne)] at e2
        (repeat first|refine zA ?_|refine zB ?_|refine zC ?_|refine zD ?_|refine zE ?_|refine zg ?_|refine zo rfl rfl (by first|exact trivial|(simp only[AllP];omega)|(simp(discharger:=omega)only[AllP,cA,cB];omega)|(simp only[AllP,cC,cD,cE,cF,cG];omega)) ?_|refine zn ?_|refine zb ?_|refine ze rfl ?_|refine zr ?_|refine zk ?_|refine zT rfl rfl rfl ?_|refine zU rfl rfl rfl ?_|refine zV rfl rfl rfl ?_|refine zf rfl ?_|refine zt rfl ?_)
        refine o_load rfl (hs3.blk hh) rfl rfl rfl rfl rfl ?_
        (repeat first|refine zA ?_|refine zB ?_|refine zC ?_|refine zD ?_|refine zE ?_|refine zg ?_|refine zo rfl rfl (by first|exact trivial|(simp only[AllP];omega)|(simp(discharger:=omega)only[AllP,cA,cB];omega)|(simp only[AllP,cC,cD,cE,cF,cG];omega)) ?_|refine zn ?_|refine zb ?_|refine ze rfl ?_|refine zr ?_|refine zk ?_|refine zT rfl rfl rfl ?_|refine zU rfl rfl rfl ?_|refine zV rfl rfl rfl ?_|refine zf rfl ?_|refine zt rfl ?_)
        refine o_loadc rfl (hcy w3 hs3) rfl rfl rfl rfl ?_
        (repeat first|refine zA ?_|refine zB ?_|refine zC ?_|refine zD ?_|refine zE ?_|refine zg ?_|refine zo rfl rfl (by first|exact trivial|(simp only[AllP];omega)|(simp(discharger:=omega)only[AllP,cA,cB];omega)|(simp only[AllP,cC,cD,cE,cF,cG];omega)) ?_|refine zn ?_|refine zb ?_|refine ze rfl ?_|refine zr ?_|refine zk ?_|refine zT rfl rfl rfl ?_|refine zU rfl rfl rfl ?_|refine zV rfl rfl rfl ?_|refine zf rfl ?_|refine zt rfl ?_)
        refine o_call (with_ret (n := y) (hN2.own.kp (hs3.kp []) (by simp)).read hr2.sorted (by omega) (by omega) (fun x hx => by have := hr2.lt x hx; omega)) rfl rfl rfl ?_
        rintro v w4 ⟨ad4, cap4, rfl, hn4⟩
        (repeat first|refine zA ?_|refine zB ?_|refine zC ?_|refine zD ?_|refine zE ?_|refine zg ?_|refine zo rfl rfl (by first|exact trivial|(simp only[AllP];omega)|(simp(discharger:=omega)only[AllP,cA,cB];omega)|(simp only[AllP,cC,cD,cE,cF,cG];omega)) ?_|refine zn ?_|refine zb ?_|refine ze rfl ?_|refine zr ?_|refine zk ?_|refine zT rfl rfl rfl ?_|refine zU rfl rfl rfl ?_|refine zV rfl rfl rfl ?_|refine zf rfl ?_|refine zt rfl ?_)
        have k04 := (hN2.kp.trans (hs3.kp [])).trans hn4.kp
        refine ⟨(j + 1, withL out2 y, ad4, cap4), rfl, ⟨⟨hn4.own, k04, fun b hb => ?_⟩, (by dsimp only; omega), e2.symm⟩, (by dsimp only; omega)⟩
        have := hn4.new b hb; have := (hN2.kp.trans (hs3.kp [])).size; omega
      · rw [if_neg (by simpa using hin)] at e2
        (repeat first|refine zA ?_|refine zB ?_|refine zC ?_|refine zD ?_|refine zE ?_|refine zg ?_|refine zo rfl rfl (by first|exact trivial|(simp only[AllP];omega)|(simp(discharger:=omega)only[AllP,cA,cB];omega)|(simp only[AllP,cC,cD,cE,cF,cG];omega)) ?_|refine zn ?_|refine zb ?_|refine ze rfl ?_|refine zr ?_|refine zk ?_|refine zT rfl rfl rfl ?_|refine zU rfl rfl rfl ?_|refine zV rfl rfl rfl ?_|refine zf rfl ?_|refine zt rfl ?_)
        exact ⟨(j + 1, out2, ad2, cap2), rfl, ⟨⟨hN2.own.kp (hs3.kp []) (by simp), hN2.kp.trans (hs3.kp []), hN2.new⟩, (by dsimp only; omega), e2.symm⟩, (by dsimp only; omega)⟩
  have hjl : j = m.length := by omega
  subst hjl
  rw [List.take_length] at ho2
  (repeat first|refine zA ?_|refine zB ?_|refine zC ?_|refine zD ?_|refine zE ?_|refine zg ?_|refine zo rfl rfl (by first|exact trivial|(simp only[AllP];omega)|(simp(discharger:=omega)only[AllP,cA,cB];omega)|(simp only[AllP,cC,cD,cE,cF,cG];omega)) ?_|refine zn ?_|refine zb ?_|refine ze rfl ?_|refine zr ?_|refine zk ?_|refine zT rfl rfl rfl ?_|refine zU rfl rfl rfl ?_|refine zV rfl rfl rfl ?_|refine zf rfl ?_|refine zt rfl ?_)
  refine o_store rfl h2.hdr (by show 0 < 1; omega) rfl rfl rfl rfl rfl rfl ?_
  intro w6 hu6
  (repeat first|refine zA ?_|refine zB ?_|refine zC ?_|refine zD ?_|refine zE ?_|refine zg ?_|refine zo rfl rfl (by first|exact trivial|(simp only[AllP];omega)|(simp(discharger:=omega)only[AllP,cA,cB];omega)|(simp only[AllP,cC,cD,cE,cF,cG];omega)) ?_|refine zn ?_|refine zb ?_|refine ze rfl ?_|refine zr ?_|refine zk ?_|refine zT rfl rfl rfl ?_|refine zU rfl rfl rfl ?_|refine zV rfl rfl rfl ?_|refine zf rfl ?_|refine zt rfl ?_)
  refine ⟨_, rfl, rfl, ad2, cap2, ?_⟩
  have e3 : mergeL l m b1 b2 b3 = out2 := by rw [ho2, ho]; rfl
  rw [e3]
  exact h.lay hT hN2 hu6

theorem refKeep_nil (o : Option Nat) : Ret Tryd.prog 95 [.pointer none, optr o] w (fun v w' => v = I 1 ∧ w' = w) := by
  refine enter Tryd.call95 Tryd.func95 rfl rfl rfl rfl ?_
  cases o
  all_goals simp only [optr]
  all_goals (repeat first|refine zA ?_|refine zB ?_|refine zC ?_|refine zD ?_|refine zE ?_|refine zg ?_|refine zo rfl rfl (by first|exact trivial|(simp only[AllP];omega)|(simp(discharger:=omega)only[AllP,cA,cB];omega)|(simp only[AllP,cC,cD,cE,cF,cG];omega)) ?_|refine zn ?_|refine zb ?_|refine ze rfl ?_|refine zr ?_|refine zk ?_|refine zT rfl rfl rfl ?_|refine zU rfl rfl rfl ?_|refine zV rfl rfl rfl ?_|refine zf rfl ?_|refine zt rfl ?_)
  all_goals refine o_call (merged_nil _ true false false) rfl rfl rfl ?_
  all_goals rintro v w1 ⟨rfl, rfl⟩
  all_goals (repeat first|refine zA ?_|refine zB ?_|refine zC ?_|refine zD ?_|refine zE ?_|refine zg ?_|refine zo rfl rfl (by first|exact trivial|(simp only[AllP];omega)|(simp(discharger:=omega)only[AllP,cA,cB];omega)|(simp only[AllP,cC,cD,cE,cF,cG];omega)) ?_|refine zn ?_|refine zb ?_|refine ze rfl ?_|refine zr ?_|refine zk ?_|refine zT rfl rfl rfl ?_|refine zU rfl rfl rfl ?_|refine zV rfl rfl rfl ?_|refine zf rfl ?_|refine zt rfl ?_)
  all_goals exact ⟨_, rfl, rfl, rfl⟩
theorem refKeep_nil2 : Ret Tryd.prog 95 [ptr p, .pointer none] w (fun v w' => v = I 1 ∧ w' = w) := by
  refine enter Tryd.call95 Tryd.func95 rfl rfl rfl rfl ?_
  (repeat first|refine zA ?_|refine zB ?_|refine zC ?_|refine zD ?_|refine zE ?_|refine zg ?_|refine zo rfl rfl (by first|exact trivial|(simp only[AllP];omega)|(simp(discharger:=omega)only[AllP,cA,cB];omega)|(simp only[AllP,cC,cD,cE,cF,cG];omega)) ?_|refine zn ?_|refine zb ?_|refine ze rfl ?_|refine zr ?_|refine zk ?_|refine zT rfl rfl rfl ?_|refine zU rfl rfl rfl ?_|refine zV rfl rfl rfl ?_|refine zf rfl ?_|refine zt rfl ?_)
  refine o_call (merged_nil2 true false false) rfl rfl rfl ?_
  rintro v w1 ⟨rfl, rfl⟩
  (repeat first|refine zA ?_|refine zB ?_|refine zC ?_|refine zD ?_|refine zE ?_|refine zg ?_|refine zo rfl rfl (by first|exact trivial|(simp only[AllP];omega)|(simp(discharger:=omega)only[AllP,cA,cB];omega)|(simp only[AllP,cC,cD,cE,cF,cG];omega)) ?_|refine zn ?_|refine zb ?_|refine ze rfl ?_|refine zr ?_|refine zk ?_|refine zT rfl rfl rfl ?_|refine zU rfl rfl rfl ?_|refine zV rfl rfl rfl ?_|refine zf rfl ?_|refine zt rfl ?_)
  exact ⟨_, rfl, rfl, rfl⟩
theorem refKeep_ret (hT : TabW w) (h : RefAt w p l ad cap) (k : RefAt w q m bd bap) (hl : Ris l) (hm : Ris m) : Ret Tryd.prog 95 [ptr p, ptr q] w (fun v w' => v = I 0 ∧ ∃ ad' cap', RefTo w p ad w' (mergeL l m true false false) ad' cap') := by
  refine enter Tryd.call95 Tryd.func95 rfl rfl rfl rfl ?_
  (repeat first|refine zA ?_|refine zB ?_|refine zC ?_|refine zD ?_|refine zE ?_|refine zg ?_|refine zo rfl rfl (by first|exact trivial|(simp only[AllP];omega)|(simp(discharger:=omega)only[AllP,cA,cB];omega)|(simp only[AllP,cC,cD,cE,cF,cG];omega)) ?_|refine zn ?_|refine zb ?_|refine ze rfl ?_|refine zr ?_|refine zk ?_|refine zT rfl rfl rfl ?_|refine zU rfl rfl rfl ?_|refine zV rfl rfl rfl ?_|refine zf rfl ?_|refine zt rfl ?_)
  refine o_call (merged_ret hT h k hl hm true false false) rfl rfl rfl ?_
  rintro v w1 ⟨rfl, hx⟩
  (repeat first|refine zA ?_|refine zB ?_|refine zC ?_|refine zD ?_|refine zE ?_|refine zg ?_|refine zo rfl rfl (by first|exact trivial|(simp only[AllP];omega)|(simp(discharger:=omega)only[AllP,cA,cB];omega)|(simp only[AllP,cC,cD,cE,cF,cG];omega)) ?_|refine zn ?_|refine zb ?_|refine ze rfl ?_|refine zr ?_|refine zk ?_|refine zT rfl rfl rfl ?_|refine zU rfl rfl rfl ?_|refine zV rfl rfl rfl ?_|refine zf rfl ?_|refine zt rfl ?_)
  exact ⟨_, rfl, rfl, hx⟩
theorem refDrop_nil (o : Option Nat) : Ret Tryd.prog 96 [.pointer none, optr o] w (fun v w' => v = I 1 ∧ w' = w) := by
  refine enter Tryd.call96 Tryd.func96 rfl rfl rfl rfl ?_
  cases o
  all_goals simp only [optr]
  all_goals (repeat first|refine zA ?_|refine zB ?_|refine zC ?_|refine zD ?_|refine zE ?_|refine zg ?_|refine zo rfl rfl (by first|exact trivial|(simp only[AllP];omega)|(simp(discharger:=omega)only[AllP,cA,cB];omega)|(simp only[AllP,cC,cD,cE,cF,cG];omega)) ?_|refine zn ?_|refine zb ?_|refine ze rfl ?_|refine zr ?_|refine zk ?_|refine zT rfl rfl rfl ?_|refine zU rfl rfl rfl ?_|refine zV rfl rfl rfl ?_|refine zf rfl ?_|refine zt rfl ?_)
  all_goals refine o_call (merged_nil _ false true false) rfl rfl rfl ?_
  all_goals rintro v w1 ⟨rfl, rfl⟩
  all_goals (repeat first|refine zA ?_|refine zB ?_|refine zC ?_|refine zD ?_|refine zE ?_|refine zg ?_|refine zo rfl rfl (by first|exact trivial|(simp only[AllP];omega)|(simp(discharger:=omega)only[AllP,cA,cB];omega)|(simp only[AllP,cC,cD,cE,cF,cG];omega)) ?_|refine zn ?_|refine zb ?_|refine ze rfl ?_|refine zr ?_|refine zk ?_|refine zT rfl rfl rfl ?_|refine zU rfl rfl rfl ?_|refine zV rfl rfl rfl ?_|refine zf rfl ?_|refine zt rfl ?_)
  all_goals exact ⟨_, rfl, rfl, rfl⟩
theorem refDrop_nil2 : Ret Tryd.prog 96 [ptr p, .pointer none] w (fun v w' => v = I 1 ∧ w' = w) := by
  refine enter Tryd.call96 Tryd.func96 rfl rfl rfl rfl ?_
  (repeat first|refine zA ?_|refine zB ?_|refine zC ?_|refine zD ?_|refine zE ?_|refine zg ?_|refine zo rfl rfl (by first|exact trivial|(simp only[AllP];omega)|(simp(discharger:=omega)only[AllP,cA,cB];omega)|(simp only[AllP,cC,cD,cE,cF,cG];omega)) ?_|refine zn ?_|refine zb ?_|refine ze rfl ?_|refine zr ?_|refine zk ?_|refine zT rfl rfl rfl ?_|refine zU rfl rfl rfl ?_|refine zV rfl rfl rfl ?_|refine zf rfl ?_|refine zt rfl ?_)
  refine o_call (merged_nil2 false true false) rfl rfl rfl ?_
  rintro v w1 ⟨rfl, rfl⟩
  (repeat first|refine zA ?_|refine zB ?_|refine zC ?_|refine zD ?_|refine zE ?_|refine zg ?_|refine zo rfl rfl (by first|exact trivial|(simp only[AllP];omega)|(simp(discharger:=omega)only[AllP,cA,cB];omega)|(simp only[AllP,cC,cD,cE,cF,cG];omega)) ?_|refine zn ?_|refine zb ?_|refine ze rfl ?_|refine zr ?_|refine zk ?_|refine zT rfl rfl rfl ?_|refine zU rfl rfl rfl ?_|refine zV rfl rfl rfl ?_|refine zf rfl ?_|refine zt rfl ?_)
  exact ⟨_, rfl, rfl, rfl⟩
theorem refDrop_ret (hT : TabW w) (h : RefAt w p l ad cap) (k : RefAt w q m bd bap) (hl : Ris l) (hm : Ris m) : Ret Tryd.prog 96 [ptr p, ptr q] w (fun v w' => v = I 0 ∧ ∃ ad' cap', RefTo w p ad w' (mergeL l m false true false) ad' cap') := by
  refine enter Tryd.call96 Tryd.func96 rfl rfl rfl rfl ?_
  (repeat first|refine zA ?_|refine zB ?_|refine zC ?_|refine zD ?_|refine zE ?_|refine zg ?_|refine zo rfl rfl (by first|exact trivial|(simp only[AllP];omega)|(simp(discharger:=omega)only[AllP,cA,cB];omega)|(simp only[AllP,cC,cD,cE,cF,cG];omega)) ?_|refine zn ?_|refine zb ?_|refine ze rfl ?_|refine zr ?_|refine zk ?_|refine zT rfl rfl rfl ?_|refine zU rfl rfl rfl ?_|refine zV rfl rfl rfl ?_|refine zf rfl ?_|refine zt rfl ?_)
  refine o_call (merged_ret hT h k hl hm false true false) rfl rfl rfl ?_
  rintro v w1 ⟨rfl, hx⟩
  (repeat first|refine zA ?_|refine zB ?_|refine zC ?_|refine zD ?_|refine zE ?_|refine zg ?_|refine zo rfl rfl (by first|exact trivial|(simp only[AllP];omega)|(simp(discharger:=omega)only[AllP,cA,cB];omega)|(simp only[AllP,cC,cD,cE,cF,cG];omega)) ?_|refine zn ?_|refine zb ?_|refine ze rfl ?_|refine zr ?_|refine zk ?_|refine zT rfl rfl rfl ?_|refine zU rfl rfl rfl ?_|refine zV rfl rfl rfl ?_|refine zf rfl ?_|refine zt rfl ?_)
  exact ⟨_, rfl, rfl, hx⟩
theorem refTurn_nil (o : Option Nat) : Ret Tryd.prog 97 [.pointer none, optr o] w (fun v w' => v = I 1 ∧ w' = w) := by
  refine enter Tryd.call97 Tryd.func97 rfl rfl rfl rfl ?_
  cases o
  all_goals simp only [optr]
  all_goals (repeat first|refine zA ?_|refine zB ?_|refine zC ?_|refine zD ?_|refine zE ?_|refine zg ?_|refine zo rfl rfl (by first|exact trivial|(simp only[AllP];omega)|(simp(discharger:=omega)only[AllP,cA,cB];omega)|(simp only[AllP,cC,cD,cE,cF,cG];omega)) ?_|refine zn ?_|refine zb ?_|refine ze rfl ?_|refine zr ?_|refine zk ?_|refine zT rfl rfl rfl ?_|refine zU rfl rfl rfl ?_|refine zV rfl rfl rfl ?_|refine zf rfl ?_|refine zt rfl ?_)
  all_goals refine o_call (merged_nil _ false true true) rfl rfl rfl ?_
  all_goals rintro v w1 ⟨rfl, rfl⟩
  all_goals (repeat first|refine zA ?_|refine zB ?_|refine zC ?_|refine zD ?_|refine zE ?_|refine zg ?_|refine zo rfl rfl (by first|exact trivial|(simp only[AllP];omega)|(simp(discharger:=omega)only[AllP,cA,cB];omega)|(simp only[AllP,cC,cD,cE,cF,cG];omega)) ?_|refine zn ?_|refine zb ?_|refine ze rfl ?_|refine zr ?_|refine zk ?_|refine zT rfl rfl rfl ?_|refine zU rfl rfl rfl ?_|refine zV rfl rfl rfl ?_|refine zf rfl ?_|refine zt rfl ?_)
  all_goals exact ⟨_, rfl, rfl, rfl⟩
theorem refTurn_nil2 : Ret Tryd.prog 97 [ptr p, .pointer none] w (fun v w' => v = I 1 ∧ w' = w) := by
  refine enter Tryd.call97 Tryd.func97 rfl rfl rfl rfl ?_
  (repeat first|refine zA ?_|refine zB ?_|refine zC ?_|refine zD ?_|refine zE ?_|refine zg ?_|refine zo rfl rfl (by first|exact trivial|(simp only[AllP];omega)|(simp(discharger:=omega)only[AllP,cA,cB];omega)|(simp only[AllP,cC,cD,cE,cF,cG];omega)) ?_|refine zn ?_|refine zb ?_|refine ze rfl ?_|refine zr ?_|refine zk ?_|refine zT rfl rfl rfl ?_|refine zU rfl rfl rfl ?_|refine zV rfl rfl rfl ?_|refine zf rfl ?_|refine zt rfl ?_)
  refine o_call (merged_nil2 false true true) rfl rfl rfl ?_
  rintro v w1 ⟨rfl, rfl⟩
  (repeat first|refine zA ?_|refine zB ?_|refine zC ?_|refine zD ?_|refine zE ?_|refine zg ?_|refine zo rfl rfl (by first|exact trivial|(simp only[AllP];omega)|(simp(discharger:=omega)only[AllP,cA,cB];omega)|(simp only[AllP,cC,cD,cE,cF,cG];omega)) ?_|refine zn ?_|refine zb ?_|refine ze rfl ?_|refine zr ?_|refine zk ?_|refine zT rfl rfl rfl ?_|refine zU rfl rfl rfl ?_|refine zV rfl rfl rfl ?_|refine zf rfl ?_|refine zt rfl ?_)
  exact ⟨_, rfl, rfl, rfl⟩
theorem refTurn_ret (hT : TabW w) (h : RefAt w p l ad cap) (k : RefAt w q m bd bap) (hl : Ris l) (hm : Ris m) : Ret Tryd.prog 97 [ptr p, ptr q] w (fun v w' => v = I 0 ∧ ∃ ad' cap', RefTo w p ad w' (mergeL l m false true true) ad' cap') := by
  refine enter Tryd.call97 Tryd.func97 rfl rfl rfl rfl ?_
  (repeat first|refine zA ?_|refine zB ?_|refine zC ?_|refine zD ?_|refine zE ?_|refine zg ?_|refine zo rfl rfl (by first|exact trivial|(simp only[AllP];omega)|(simp(discharger:=omega)only[AllP,cA,cB];omega)|(simp only[AllP,cC,cD,cE,cF,cG];omega)) ?_|refine zn ?_|refine zb ?_|refine ze rfl ?_|refine zr ?_|refine zk ?_|refine zT rfl rfl rfl ?_|refine zU rfl rfl rfl ?_|refine zV rfl rfl rfl ?_|refine zf rfl ?_|refine zt rfl ?_)
  refine o_call (merged_ret hT h k hl hm false true true) rfl rfl rfl ?_
  rintro v w1 ⟨rfl, hx⟩
  (repeat first|refine zA ?_|refine zB ?_|refine zC ?_|refine zD ?_|refine zE ?_|refine zg ?_|refine zo rfl rfl (by first|exact trivial|(simp only[AllP];omega)|(simp(discharger:=omega)only[AllP,cA,cB];omega)|(simp only[AllP,cC,cD,cE,cF,cG];omega)) ?_|refine zn ?_|refine zb ?_|refine ze rfl ?_|refine zr ?_|refine zk ?_|refine zT rfl rfl rfl ?_|refine zU rfl rfl rfl ?_|refine zV rfl rfl rfl ?_|refine zf rfl ?_|refine zt rfl ?_)
  exact ⟨_, rfl, rfl, hx⟩
end
end Go.Vc
