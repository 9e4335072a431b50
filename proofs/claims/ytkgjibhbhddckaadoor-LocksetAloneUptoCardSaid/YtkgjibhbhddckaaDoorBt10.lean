/- bits: Copy, Within, Meets, Equal. -/
import Derived.Test.YtkgjibhbhddckaaDoorBt8
namespace Go.Vc
open Go Go.Proofs
set_option maxRecDepth 10000
variable {w : World}

theorem NewS.noth {T : TypeId} {ad : Option Addr} {n cap : Nat} {xs : List Value} {w' : World} (h : NewS w T w' ad n cap xs) (hT : TabW w) : 0 ∉ blkOf ad := fun hb => by
  have := h.new _ hb; have := hT.lt; omega
theorem Copy_ret (hT : TabW w) {p : Nat} {ws : List Nat} {ad : Option Addr} {cap : Nat} (h : SetAt w p ws ad cap) :
    Ret Tryd.prog 51 [ptr p] w (fun v w' => ∃ p' ad' cap', v = ptr p' ∧ NewSet w p' w' ws ad' cap') := by
  refine enter Tryd.call51 Tryd.func51 rfl rfl rfl rfl ?_
  (repeat first|refine zA ?_|refine zB ?_|refine zC ?_|refine zD ?_|refine zE ?_|refine zg ?_|refine zo rfl rfl (by first|exact trivial|(simp only[AllP];omega)|(simp(discharger:=omega)only[AllP,cA,cB];omega)|(simp only[AllP,cC,cD,cE,cF,cG];omega)) ?_|refine zn ?_|refine zb ?_|refine ze rfl ?_|refine zr ?_|refine zk ?_|refine zT rfl rfl rfl ?_|refine zU rfl rfl rfl ?_|refine zV rfl rfl rfl ?_|refine zf rfl ?_|refine zt rfl ?_)
  refine o_call (there_ret h) rfl rfl rfl ?_
  rintro v w' ⟨rfl, rfl⟩
  (repeat first|refine zA ?_|refine zB ?_|refine zC ?_|refine zD ?_|refine zE ?_|refine zg ?_|refine zo rfl rfl (by first|exact trivial|(simp only[AllP];omega)|(simp(discharger:=omega)only[AllP,cA,cB];omega)|(simp only[AllP,cC,cD,cE,cF,cG];omega)) ?_|refine zn ?_|refine zb ?_|refine ze rfl ?_|refine zr ?_|refine zk ?_|refine zT rfl rfl rfl ?_|refine zU rfl rfl rfl ?_|refine zV rfl rfl rfl ?_|refine zf rfl ?_|refine zt rfl ?_)
  refine o_call (Words_ret h) rfl rfl rfl ?_
  rintro v w2 ⟨ad2, cap2, rfl, hn⟩
  (repeat first|refine zA ?_|refine zB ?_|refine zC ?_|refine zD ?_|refine zE ?_|refine zg ?_|refine zo rfl rfl (by first|exact trivial|(simp only[AllP];omega)|(simp(discharger:=omega)only[AllP,cA,cB];omega)|(simp only[AllP,cC,cD,cE,cF,cG];omega)) ?_|refine zn ?_|refine zb ?_|refine ze rfl ?_|refine zr ?_|refine zk ?_|refine zT rfl rfl rfl ?_|refine zU rfl rfl rfl ?_|refine zV rfl rfl rfl ?_|refine zf rfl ?_|refine zt rfl ?_)
  refine o_build [B true, .slice ad2 ws.length cap2] rfl rfl rfl rfl rfl rfl rfl ?_
  refine o_box rfl rfl rfl ?_
  intro p' w3 hp hu
  have hk := hn.kp.size
  have hne : p' ∉ blkOf ad2 := fun hb => by have := hn.own.lt p' hb; omega
  (repeat first|refine zA ?_|refine zB ?_|refine zC ?_|refine zD ?_|refine zE ?_|refine zg ?_|refine zo rfl rfl (by first|exact trivial|(simp only[AllP];omega)|(simp(discharger:=omega)only[AllP,cA,cB];omega)|(simp only[AllP,cC,cD,cE,cF,cG];omega)) ?_|refine zn ?_|refine zb ?_|refine ze rfl ?_|refine zr ?_|refine zk ?_|refine zT rfl rfl rfl ?_|refine zU rfl rfl rfl ?_|refine zV rfl rfl rfl ?_|refine zf rfl ?_|refine zt rfl ?_)
  refine ⟨_, rfl, p', ad2, cap2, rfl, ⟨hu.blk, hn.own.upd hu hne, h.ok, h.len, ?_⟩, hn.kp.trans (hu.kp [] (.inr (by omega))), ?_⟩
  · intro hb
    rcases List.mem_cons.1 hb with hb | hb
    · have := hT.lt; omega
    · exact hn.noth hT hb
  · intro b hb
    rcases List.mem_cons.1 hb with rfl | hb
    · omega
    · exact hn.new b hb
theorem Copy_nil : Ret Tryd.prog 51 [.pointer none] w (fun v w' => v = .pointer none ∧ w' = w) := by
  refine enter Tryd.call51 Tryd.func51 rfl rfl rfl rfl ?_
  (repeat first|refine zA ?_|refine zB ?_|refine zC ?_|refine zD ?_|refine zE ?_|refine zg ?_|refine zo rfl rfl (by first|exact trivial|(simp only[AllP];omega)|(simp(discharger:=omega)only[AllP,cA,cB];omega)|(simp only[AllP,cC,cD,cE,cF,cG];omega)) ?_|refine zn ?_|refine zb ?_|refine ze rfl ?_|refine zr ?_|refine zk ?_|refine zT rfl rfl rfl ?_|refine zU rfl rfl rfl ?_|refine zV rfl rfl rfl ?_|refine zf rfl ?_|refine zt rfl ?_)
  refine o_call there_nil rfl rfl rfl ?_
  rintro v w' ⟨rfl, rfl⟩
  (repeat first|refine zA ?_|refine zB ?_|refine zC ?_|refine zD ?_|refine zE ?_|refine zg ?_|refine zo rfl rfl (by first|exact trivial|(simp only[AllP];omega)|(simp(discharger:=omega)only[AllP,cA,cB];omega)|(simp only[AllP,cC,cD,cE,cF,cG];omega)) ?_|refine zn ?_|refine zb ?_|refine ze rfl ?_|refine zr ?_|refine zk ?_|refine zT rfl rfl rfl ?_|refine zU rfl rfl rfl ?_|refine zV rfl rfl rfl ?_|refine zf rfl ?_|refine zt rfl ?_)
  exact ⟨_, rfl, rfl, rfl⟩

theorem SetAt.word {p : Nat} {ws : List Nat} {ad : Option Addr} {cap : Nat} (h : SetAt w p ws ad cap) {i : Nat} (hi : i < ws.length) : ∃ b junk, ad = some ⟨b, 0, none⟩ ∧ Blk w b (ws.map U ++ junk) 151 ∧ (ws.map U ++ junk)[i]? = some (U (ws.getD i 0)) := by
  obtain ⟨b, junk, h1, h2⟩ := h.blk (by omega)
  refine ⟨b, junk, h1, h2, ?_⟩
  rw [List.getElem?_append_left (by simpa using hi), List.getElem?_map, List.getD_eq_getElem?_getD, List.getElem?_eq_getElem hi]; rfl
/-- there, in each of a class of worlds -/
theorem there_q {p : Nat} {ws : List Nat} {ad : Option Addr} {cap : Nat} (h : SetAt w p ws ad cap) : ∀ w1, Sm w w1 → Ret Tryd.prog 80 [ptr p] w1 (fun v' w' => v' = .bool true ∧ Sm w w') :=
  fun w1 hs => (there_ret (h.sm hs)).mono fun v w' ⟨h1, h2⟩ => ⟨h1, by rw [h2]; exact hs⟩
theorem there_qnil : ∀ w1, Sm w w1 → Ret Tryd.prog 80 [.pointer none] w1 (fun v' w' => v' = .bool false ∧ Sm w w') :=
  fun w1 hs => there_nil.mono fun v w' ⟨h1, h2⟩ => ⟨h1, by rw [h2]; exact hs⟩

def withinW (a b : List Nat) : Bool := decide (a.length ≤ b.length) && (List.range a.length).all fun i => decide (andn (a.getD i 0) (b.getD i 0) = 0)
def meetsW (a b : List Nat) : Bool := (List.range (min a.length b.length)).any fun i => decide (a.getD i 0 &&& b.getD i 0 ≠ 0)
/-! ### Equal -/
end Go.Vc
