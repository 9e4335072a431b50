/- bits: BitsWords. -/
import Derived.Test.YtdfkhnhmcanncaaDoorBt15
import Derived.Test.YtdfkhnhmcanncaaDoorBt9
namespace Go.Vc
open Go Go.Proofs
set_option maxRecDepth 10000
variable {w : World}

section
variable {P : Program} {n : Nat} {e : Env} {K : EPost} {all : List Oper} {G : List Nat} {ro : Option Nat} {dst : Option Tmp} {ty : TypeId} {pos : String} {after : Array Edge} {g : Option (Nat × Bool)} {l : List Oper} {t : TypeId} {x y : Operand}
/-- append(nil, s...): a copy of one's own -/
theorem o_appendNil {T : TypeId} {td : TypeDesc} {tn : String} {tby : Nat} {thp : Bool} {tal tfa : Nat} {z : Value} {tcm : Bool} {tms : Array Method}
    {ad : Option Addr} {m cy : Nat} (news : List Value) (hx : ev e x = .slice none 0 0) (hy : ev e y = .slice ad m cy) (hr : ReadS w ad news)
    (hu : P.underlying t = some (.slice T)) (hi : P.info? T = some ⟨td, tn, 1, tby, thp, tal, tfa, some z, tcm, tms⟩) (hzs : z.cells.size = 1)
    (hl : news.length = m) (h1 : ∀ v ∈ news, v.oneCell' = true) (h63 : m ≤ maxLen) (hby : m * tby ≤ 140737488355328) (hd : dOk n dst = true) (hm : may all G e g = some true)
    (kk : ∀ ad' cap' w', NewS w T w' ad' m cap' news → Ops ro P n all G K l (put e dst (.slice ad' m cap')) w') :
    Ops ro P n all G K (⟨dst, .call ⟨.builtin .append, #[x, y], #[t, t]⟩, ty, pos, after, g⟩ :: l) e w := by
  by_cases h0 : m = 0
  · subst h0
    have : news = [] := List.eq_nil_of_length_eq_zero hl
    subst this
    exact o_append0 hx hy (Nat.le_refl _) hu hi hd hm (kk none 0 w ⟨ownS_nil _ _ _, Kp.refl _ _, by simp [blkOf]⟩)
  · obtain ⟨b, off, rfl, _, hc⟩ := hr.at_ (by omega)
    refine o_append news hx hy (ownS_nil _ _ _) (fun j v hv => by rw [addr_lit]; exact hc j v hv) hu hi hzs (by omega) (by omega) (by omega) h1 (by omega) (by rw [Nat.zero_add]; exact hby) hd hm ?_
    intro ad' cap' w' ho hk hnew
    rw [Nat.zero_add] at ho ⊢
    refine kk ad' cap' w' ⟨ho, hk, fun b hb => ?_⟩
    rcases hnew b hb with h | h
    · simp [blkOf] at h
    · exact h
end
theorem NewS.since {T : TypeId} {ad : Option Addr} {n cap : Nat} {xs : List Value} {w0 w' : World} (h : NewS w T w' ad n cap xs) (k : Kp [] w0 w) : NewS w0 T w' ad n cap xs := ⟨h.own, k.trans h.kp, fun b hb => Nat.le_trans k.size (h.new b hb)⟩
theorem sameWords_eq {ad1 ad2 : Option Addr} {l : List Nat} {n1 n2 c1 c2 : Nat} (h1 : ReadS w ad1 (l.map U)) (h2 : ReadS w ad2 (l.map U)) (e1 : l.length = n1) (e2 : l.length = n2) (hl : n1 ≤ 9223372036854775807) :
    Ret Tryd.prog 23 [.slice ad1 n1 c1, .slice ad2 n2 c2] w (fun v w' => v = .bool true ∧ Sm w w') :=
  (sameWords_ret h1 h2 e1 e2 hl).mono fun v w' ⟨h, hs⟩ => ⟨by rw [h, decide_eq_true rfl], hs⟩
theorem same_yes {ad1 ad2 : Option Addr} {l : List Int} {n1 n2 c1 c2 : Nat} (h1 : ReadS w ad1 (l.map I)) (h2 : ReadS w ad2 (l.map I)) (e1 : l.length = n1) (e2 : l.length = n2) (hl : n1 ≤ 9223372036854775807) :
    Ret Tryd.prog 19 [.slice ad1 n1 c1, .slice ad2 n2 c2] w (fun v w' => v = .bool true ∧ Sm w w') :=
  (same_ret2 h1 h2 e1 e2 hl).mono fun v w' ⟨h, hs⟩ => ⟨by rw [h, decide_eq_true rfl], hs⟩
theorem trim_trim (ws : List Nat) : trim (trim ws) = trim ws := by
  rcases trim_last ws with h | ⟨l, x, h, hx⟩
  · rw [h]; rfl
  · rw [h]; exact trim_snoc hx
theorem elems_lt {ws : List Nat} (h : ws.length ≤ 16384) : ∀ k ∈ elems ws, k < 1048576 := fun k hk => by have := bit_lt (mem_elems.1 hk); omega

theorem BitsWords_ret (hT : TabW w) {ad : Option Addr} {ws : List Nat} {c : Nat} (h : ReadS w ad (ws.map U)) (hok : WOk ws) (hl : ws.length ≤ 1048576) :
    Ret Tryd.prog 4 [.slice ad ws.length c] w (fun v w' => v = .bool true ∧ Kp [] w w') := by
  refine enter Tryd.call4 Tryd.func4 rfl rfl rfl rfl ?_
  (repeat first|refine zA ?_|refine zB ?_|refine zC ?_|refine zD ?_|refine zE ?_|refine zg ?_|refine zo rfl rfl (by first|exact trivial|(simp only[AllP];omega)|(simp(discharger:=omega)only[AllP,cA,cB];omega)|(simp only[AllP,cC,cD,cE,cF,cG];omega)) ?_|refine zn ?_|refine zb ?_|refine ze rfl ?_|refine zr ?_|refine zk ?_|refine zT rfl rfl rfl ?_|refine zU rfl rfl rfl ?_|refine zV rfl rfl rfl ?_|refine zf rfl ?_|refine zt rfl ?_)
  refine o_call (lives_ret hT) rfl rfl rfl ?_
  rintro v w1 ⟨rfl, k1⟩
  have hT1 := hT.kp k1 (by simp)
  have hr1 := h.kp k1 (by simp)
  (repeat first|refine zA ?_|refine zB ?_|refine zC ?_|refine zD ?_|refine zE ?_|refine zg ?_|refine zo rfl rfl (by first|exact trivial|(simp only[AllP];omega)|(simp(discharger:=omega)only[AllP,cA,cB];omega)|(simp only[AllP,cC,cD,cE,cF,cG];omega)) ?_|refine zn ?_|refine zb ?_|refine ze rfl ?_|refine zr ?_|refine zk ?_|refine zT rfl rfl rfl ?_|refine zU rfl rfl rfl ?_|refine zV rfl rfl rfl ?_|refine zf rfl ?_|refine zt rfl ?_)
  refine o_appendNil (ws.map U) rfl rfl hr1 rfl rfl rfl (by simp) (by simp [Value.oneCell']) (by simp only [maxLen]; omega) (by omega) rfl rfl ?_
  intro ad2 cap2 w2 hn2
  (repeat first|refine zA ?_|refine zB ?_|refine zC ?_|refine zD ?_|refine zE ?_|refine zg ?_|refine zo rfl rfl (by first|exact trivial|(simp only[AllP];omega)|(simp(discharger:=omega)only[AllP,cA,cB];omega)|(simp only[AllP,cC,cD,cE,cF,cG];omega)) ?_|refine zn ?_|refine zb ?_|refine ze rfl ?_|refine zr ?_|refine zk ?_|refine zT rfl rfl rfl ?_|refine zU rfl rfl rfl ?_|refine zV rfl rfl rfl ?_|refine zf rfl ?_|refine zt rfl ?_)
  refine o_buildSlice [U 9, U 8] rfl (by simp [Value.oneCell']) rfl (by decide) (by decide) rfl rfl rfl rfl rfl ?_
  intro b3 w3 hb3 hu3
  have k3 : Kp [] w2 w3 := hu3.kp [] (.inr (by omega))
  refine o_append (ay := ⟨b3, 0, none⟩) (m := 2) [U 9, U 8] rfl rfl (hn2.own.kp k3 (by simp)) ?_ rfl rfl rfl (by omega) (by simp) (by omega) (by simp [Value.oneCell']) (by simp only [maxLen]; omega) (by omega) rfl rfl ?_
  · intro j v hv
    rw [addr_lit, Nat.zero_add]; exact hu3.blk.cell hv
  intro ad4 cap4 w4 ho4 kk4 hnew4
  have k4 : Kp [] w1 w4 := (hn2.kp.trans k3).since kk4 hn2.new
  have hs2 := hn2.kp.size
  have hs3 := k3.size
  have hnew4' : ∀ b, b ∈ blkOf ad4 → w1.heap.size ≤ b := fun b hb => by
    rcases hnew4 b hb with h | h
    · exact hn2.new b h
    · omega
  have hT4 := hT1.kp k4 (by simp)
  have hr4 := hr1.kp k4 (by simp)
  have hR4 := ho4.read
  have hcap4 := ho4.le_cap
  have hRw : ReadS w4 ad4 (ws.map U) := by
    have := hR4.take ws.length
    rwa [List.take_left' (by simp)] at this
  (repeat first|refine zA ?_|refine zB ?_|refine zC ?_|refine zD ?_|refine zE ?_|refine zg ?_|refine zo rfl rfl (by first|exact trivial|(simp only[AllP];omega)|(simp(discharger:=omega)only[AllP,cA,cB];omega)|(simp only[AllP,cC,cD,cE,cF,cG];omega)) ?_|refine zn ?_|refine zb ?_|refine ze rfl ?_|refine zr ?_|refine zk ?_|refine zT rfl rfl rfl ?_|refine zU rfl rfl rfl ?_|refine zV rfl rfl rfl ?_|refine zf rfl ?_|refine zt rfl ?_)
  refine o_call (Of_ret hT4 ⟨hRw, hok, by omega⟩ hl) rfl rfl rfl ?_
  intro v w5 hOf
  have k5 : Kp [] w4 w5 := by
    rcases hOf with ⟨_, p, a, c', _, hn⟩ | ⟨_, _, hk⟩
    · exact hn.kp
    · exact hk
  have hT5 := hT4.kp k5 (by simp)
  have hr5 := hr4.kp k5 (by simp)
  have hR5 := hR4.kp k5 (by simp)
  have hRw5 := hRw.kp k5 (by simp)
  rcases hOf with ⟨hnb, p, a5, c5, rfl, hset⟩ | ⟨hbig, rfl, _⟩
  · (repeat first|refine zA ?_|refine zB ?_|refine zC ?_|refine zD ?_|refine zE ?_|refine zg ?_|refine zo rfl rfl (by first|exact trivial|(simp only[AllP];omega)|(simp(discharger:=omega)only[AllP,cA,cB];omega)|(simp only[AllP,cC,cD,cE,cF,cG];omega)) ?_|refine zn ?_|refine zb ?_|refine ze rfl ?_|refine zr ?_|refine zk ?_|refine zT rfl rfl rfl ?_|refine zU rfl rfl rfl ?_|refine zV rfl rfl rfl ?_|refine zf rfl ?_|refine zt rfl ?_)
    refine o_call (refOf_ret hT5 ⟨hr5, hok, by omega⟩ hl) rfl rfl rfl ?_
    rintro v w6 (⟨_, q, a6, c6, rfl, href⟩ | ⟨hbig, _⟩)
    rotate_left
    · exact absurd hbig hnb
    have k6 := href.kp
    have hset6 := hset.at_.kp k6 (by simp)
    have hr6 := hr5.kp k6 (by simp)
    have hR6 := hR5.kp k6 (by simp)
    have hRw6 := hRw5.kp k6 (by simp)
    have hT6 := hT5.kp k6 (by simp)
    obtain ⟨bl, ol, had4, _, hcell⟩ := hR6.at_ (by simp)
    subst had4
    (repeat first|refine zA ?_|refine zB ?_|refine zC ?_|refine zD ?_|refine zE ?_|refine zg ?_|refine zo rfl rfl (by first|exact trivial|(simp only[AllP];omega)|(simp(discharger:=omega)only[AllP,cA,cB];omega)|(simp only[AllP,cC,cD,cE,cF,cG];omega)) ?_|refine zn ?_|refine zb ?_|refine ze rfl ?_|refine zr ?_|refine zk ?_|refine zT rfl rfl rfl ?_|refine zU rfl rfl rfl ?_|refine zV rfl rfl rfl ?_|refine zf rfl ?_|refine zt rfl ?_)
    refine o_call (num_ret 0) rfl rfl rfl ?_
    rintro v w7 ⟨rfl, rfl⟩
    (repeat first|refine zA ?_|refine zB ?_|refine zC ?_|refine zD ?_|refine zE ?_|refine zg ?_|refine zo rfl rfl (by first|exact trivial|(simp only[AllP];omega)|(simp(discharger:=omega)only[AllP,cA,cB];omega)|(simp only[AllP,cC,cD,cE,cF,cG];omega)) ?_|refine zn ?_|refine zb ?_|refine ze rfl ?_|refine zr ?_|refine zk ?_|refine zT rfl rfl rfl ?_|refine zU rfl rfl rfl ?_|refine zV rfl rfl rfl ?_|refine zf rfl ?_|refine zt rfl ?_)
    refine o_call (sameWords_eq hRw6 hr6 rfl rfl (by omega)) rfl rfl rfl ?_
    rintro v w8 ⟨rfl, hs8⟩
    (repeat first|refine zA ?_|refine zB ?_|refine zC ?_|refine zD ?_|refine zE ?_|refine zg ?_|refine zo rfl rfl (by first|exact trivial|(simp only[AllP];omega)|(simp(discharger:=omega)only[AllP,cA,cB];omega)|(simp only[AllP,cC,cD,cE,cF,cG];omega)) ?_|refine zn ?_|refine zb ?_|refine ze rfl ?_|refine zr ?_|refine zk ?_|refine zT rfl rfl rfl ?_|refine zU rfl rfl rfl ?_|refine zV rfl rfl rfl ?_|refine zf rfl ?_|refine zt rfl ?_)
    have g9 : ∀ i v, (ws.map U ++ [U 9, U 8])[i]? = some v → w8.cell? ⟨bl, ol + i, none⟩ = some v := fun i v hv => by
      rw [← hcell i v hv]; exact World.cell?_of_block (by rw [hs8.heap])
    refine o_loadc (v := U 9) rfl ?_ rfl rfl rfl rfl ?_
    · show w8.cell? ⟨bl, ol + ws.length, none⟩ = _
      exact g9 _ _ (by rw [List.getElem?_append_right (by simp)]; simp)
    (repeat first|refine zA ?_|refine zB ?_|refine zC ?_|refine zD ?_|refine zE ?_|refine zg ?_|refine zo rfl rfl (by first|exact trivial|(simp only[AllP];omega)|(simp(discharger:=omega)only[AllP,cA,cB];omega)|(simp only[AllP,cC,cD,cE,cF,cG];omega)) ?_|refine zn ?_|refine zb ?_|refine ze rfl ?_|refine zr ?_|refine zk ?_|refine zT rfl rfl rfl ?_|refine zU rfl rfl rfl ?_|refine zV rfl rfl rfl ?_|refine zf rfl ?_|refine zt rfl ?_)
    refine o_loadc (v := U 8) rfl ?_ rfl rfl rfl rfl ?_
    · show w8.cell? ⟨bl, ol + ((ws.length : Int) + 1).toNat, none⟩ = _
      have e1 : ol + ((ws.length : Int) + 1).toNat = ol + (ws.length + 1) := by omega
      rw [e1]
      exact g9 _ _ (by rw [List.getElem?_append_right (by simp)]; simp)
    (repeat first|refine zA ?_|refine zB ?_|refine zC ?_|refine zD ?_|refine zE ?_|refine zg ?_|refine zo rfl rfl (by first|exact trivial|(simp only[AllP];omega)|(simp(discharger:=omega)only[AllP,cA,cB];omega)|(simp only[AllP,cC,cD,cE,cF,cG];omega)) ?_|refine zn ?_|refine zb ?_|refine ze rfl ?_|refine zr ?_|refine zk ?_|refine zT rfl rfl rfl ?_|refine zU rfl rfl rfl ?_|refine zV rfl rfl rfl ?_|refine zf rfl ?_|refine zt rfl ?_)
    have hset8 := hset6.sm hs8
    have hT8 := hT6.sm hs8
    have href8 := href.at_.sm hs8
    have hel := elems_len (trim ws)
    have hsl := hset.at_.len
    refine o_call (Words_ret hset8) rfl rfl rfl ?_
    rintro v w9 ⟨a9, c9, rfl, hn9⟩
    have href9 := href8.kp hn9.kp (by simp)
    have hset9 := hset8.kp hn9.kp (by simp)
    have hT9 := hT8.kp hn9.kp (by simp)
    have hes := elems_sorted (trim ws)
    have helt := elems_lt hsl
    rw [elems_trim] at hel hes helt
    (repeat first|refine zA ?_|refine zB ?_|refine zC ?_|refine zD ?_|refine zE ?_|refine zg ?_|refine zo rfl rfl (by first|exact trivial|(simp only[AllP];omega)|(simp(discharger:=omega)only[AllP,cA,cB];omega)|(simp only[AllP,cC,cD,cE,cF,cG];omega)) ?_|refine zn ?_|refine zb ?_|refine ze rfl ?_|refine zr ?_|refine zk ?_|refine zT rfl rfl rfl ?_|refine zU rfl rfl rfl ?_|refine zV rfl rfl rfl ?_|refine zf rfl ?_|refine zt rfl ?_)
    refine o_call (refWords_ret href9 (by omega) hes helt) rfl rfl rfl ?_
    rintro v w10 ⟨a10, c10, rfl, hn10⟩
    rw [refW_elems hok] at hn10 ⊢
    refine o_call (sameWords_eq (hn9.read.kp hn10.kp (by simp)) hn10.read rfl rfl (by omega)) rfl rfl rfl ?_
    rintro v w11 ⟨rfl, hs11⟩
    have hset11 := (hset9.kp hn10.kp (by simp)).sm hs11
    have href11 := (href9.kp hn10.kp (by simp)).sm hs11
    have hT11 := (hT9.kp hn10.kp (by simp)).sm hs11
    (repeat first|refine zA ?_|refine zB ?_|refine zC ?_|refine zD ?_|refine zE ?_|refine zg ?_|refine zo rfl rfl (by first|exact trivial|(simp only[AllP];omega)|(simp(discharger:=omega)only[AllP,cA,cB];omega)|(simp only[AllP,cC,cD,cE,cF,cG];omega)) ?_|refine zn ?_|refine zb ?_|refine ze rfl ?_|refine zr ?_|refine zk ?_|refine zT rfl rfl rfl ?_|refine zU rfl rfl rfl ?_|refine zV rfl rfl rfl ?_|refine zf rfl ?_|refine zt rfl ?_)
    refine o_call (List_ret hT11 hset11) rfl rfl rfl ?_
    rintro v w12 ⟨a12, c12, rfl, hn12⟩
    have href12 := href11.kp hn12.kp (by simp)
    have hT12 := hT11.kp hn12.kp (by simp)
    rw [elems_trim] at hn12 ⊢
    (repeat first|refine zA ?_|refine zB ?_|refine zC ?_|refine zD ?_|refine zE ?_|refine zg ?_|refine zo rfl rfl (by first|exact trivial|(simp only[AllP];omega)|(simp(discharger:=omega)only[AllP,cA,cB];omega)|(simp only[AllP,cC,cD,cE,cF,cG];omega)) ?_|refine zn ?_|refine zb ?_|refine ze rfl ?_|refine zr ?_|refine zk ?_|refine zT rfl rfl rfl ?_|refine zU rfl rfl rfl ?_|refine zV rfl rfl rfl ?_|refine zf rfl ?_|refine zt rfl ?_)
    refine o_call (refList_ret href12 (by omega)) rfl rfl rfl ?_
    rintro v w13 ⟨a13, c13, rfl, hn13⟩
    have q1 := hn12.read.kp hn13.kp (by simp)
    have q2 := hn13.read
    rw [map_encI] at q1 q2
    refine o_call (same_yes q1 q2 (by simp) (by simp) (by omega)) rfl rfl rfl ?_
    rintro v w14 ⟨rfl, hs14⟩
    have hT14 := (hT12.kp hn13.kp (by simp)).sm hs14
    (repeat first|refine zA ?_|refine zB ?_|refine zC ?_|refine zD ?_|refine zE ?_|refine zg ?_|refine zo rfl rfl (by first|exact trivial|(simp only[AllP];omega)|(simp(discharger:=omega)only[AllP,cA,cB];omega)|(simp only[AllP,cC,cD,cE,cF,cG];omega)) ?_|refine zn ?_|refine zb ?_|refine ze rfl ?_|refine zr ?_|refine zk ?_|refine zT rfl rfl rfl ?_|refine zU rfl rfl rfl ?_|refine zV rfl rfl rfl ?_|refine zf rfl ?_|refine zt rfl ?_)
    refine o_call (lives_ret hT14) rfl rfl rfl ?_
    rintro v w15 ⟨rfl, k15⟩
    (repeat first|refine zA ?_|refine zB ?_|refine zC ?_|refine zD ?_|refine zE ?_|refine zg ?_|refine zo rfl rfl (by first|exact trivial|(simp only[AllP];omega)|(simp(discharger:=omega)only[AllP,cA,cB];omega)|(simp only[AllP,cC,cD,cE,cF,cG];omega)) ?_|refine zn ?_|refine zb ?_|refine ze rfl ?_|refine zr ?_|refine zk ?_|refine zT rfl rfl rfl ?_|refine zU rfl rfl rfl ?_|refine zV rfl rfl rfl ?_|refine zf rfl ?_|refine zt rfl ?_)
    refine ⟨_, rfl, rfl, ?_⟩
    exact ((((((((((k1.trans k4).trans k5).trans k6).trans (hs8.kp [])).trans hn9.kp).trans hn10.kp).trans (hs11.kp [])).trans hn12.kp).trans hn13.kp).trans (hs14.kp [])).trans k15
  · (repeat first|refine zA ?_|refine zB ?_|refine zC ?_|refine zD ?_|refine zE ?_|refine zg ?_|refine zo rfl rfl (by first|exact trivial|(simp only[AllP];omega)|(simp(discharger:=omega)only[AllP,cA,cB];omega)|(simp only[AllP,cC,cD,cE,cF,cG];omega)) ?_|refine zn ?_|refine zb ?_|refine ze rfl ?_|refine zr ?_|refine zk ?_|refine zT rfl rfl rfl ?_|refine zU rfl rfl rfl ?_|refine zV rfl rfl rfl ?_|refine zf rfl ?_|refine zt rfl ?_)
    refine o_call (refOf_ret hT5 ⟨hr5, hok, by omega⟩ hl) rfl rfl rfl ?_
    rintro v w6 (⟨hnb, _⟩ | ⟨_, rfl, k6⟩)
    · exact absurd hbig hnb
    have hr6 := hr5.kp k6 (by simp)
    have hR6 := hR5.kp k6 (by simp)
    have hRw6 := hRw5.kp k6 (by simp)
    have hT6 := hT5.kp k6 (by simp)
    obtain ⟨bl, ol, had4, _, hcell⟩ := hR6.at_ (by simp)
    subst had4
    (repeat first|refine zA ?_|refine zB ?_|refine zC ?_|refine zD ?_|refine zE ?_|refine zg ?_|refine zo rfl rfl (by first|exact trivial|(simp only[AllP];omega)|(simp(discharger:=omega)only[AllP,cA,cB];omega)|(simp only[AllP,cC,cD,cE,cF,cG];omega)) ?_|refine zn ?_|refine zb ?_|refine ze rfl ?_|refine zr ?_|refine zk ?_|refine zT rfl rfl rfl ?_|refine zU rfl rfl rfl ?_|refine zV rfl rfl rfl ?_|refine zf rfl ?_|refine zt rfl ?_)
    refine o_call (num_ret 2) rfl rfl rfl ?_
    rintro v w7 ⟨rfl, rfl⟩
    (repeat first|refine zA ?_|refine zB ?_|refine zC ?_|refine zD ?_|refine zE ?_|refine zg ?_|refine zo rfl rfl (by first|exact trivial|(simp only[AllP];omega)|(simp(discharger:=omega)only[AllP,cA,cB];omega)|(simp only[AllP,cC,cD,cE,cF,cG];omega)) ?_|refine zn ?_|refine zb ?_|refine ze rfl ?_|refine zr ?_|refine zk ?_|refine zT rfl rfl rfl ?_|refine zU rfl rfl rfl ?_|refine zV rfl rfl rfl ?_|refine zf rfl ?_|refine zt rfl ?_)
    refine o_call (sameWords_eq hRw6 hr6 rfl rfl (by omega)) rfl rfl rfl ?_
    rintro v w8 ⟨rfl, hs8⟩
    (repeat first|refine zA ?_|refine zB ?_|refine zC ?_|refine zD ?_|refine zE ?_|refine zg ?_|refine zo rfl rfl (by first|exact trivial|(simp only[AllP];omega)|(simp(discharger:=omega)only[AllP,cA,cB];omega)|(simp only[AllP,cC,cD,cE,cF,cG];omega)) ?_|refine zn ?_|refine zb ?_|refine ze rfl ?_|refine zr ?_|refine zk ?_|refine zT rfl rfl rfl ?_|refine zU rfl rfl rfl ?_|refine zV rfl rfl rfl ?_|refine zf rfl ?_|refine zt rfl ?_)
    have g9 : ∀ i v, (ws.map U ++ [U 9, U 8])[i]? = some v → w8.cell? ⟨bl, ol + i, none⟩ = some v := fun i v hv => by
      rw [← hcell i v hv]; exact World.cell?_of_block (by rw [hs8.heap])
    refine o_loadc (v := U 9) rfl ?_ rfl rfl rfl rfl ?_
    · show w8.cell? ⟨bl, ol + ws.length, none⟩ = _
      exact g9 _ _ (by rw [List.getElem?_append_right (by simp)]; simp)
    (repeat first|refine zA ?_|refine zB ?_|refine zC ?_|refine zD ?_|refine zE ?_|refine zg ?_|refine zo rfl rfl (by first|exact trivial|(simp only[AllP];omega)|(simp(discharger:=omega)only[AllP,cA,cB];omega)|(simp only[AllP,cC,cD,cE,cF,cG];omega)) ?_|refine zn ?_|refine zb ?_|refine ze rfl ?_|refine zr ?_|refine zk ?_|refine zT rfl rfl rfl ?_|refine zU rfl rfl rfl ?_|refine zV rfl rfl rfl ?_|refine zf rfl ?_|refine zt rfl ?_)
    refine o_loadc (v := U 8) rfl ?_ rfl rfl rfl rfl ?_
    · show w8.cell? ⟨bl, ol + ((ws.length : Int) + 1).toNat, none⟩ = _
      have e1 : ol + ((ws.length : Int) + 1).toNat = ol + (ws.length + 1) := by omega
      rw [e1]
      exact g9 _ _ (by rw [List.getElem?_append_right (by simp)]; simp)
    (repeat first|refine zA ?_|refine zB ?_|refine zC ?_|refine zD ?_|refine zE ?_|refine zg ?_|refine zo rfl rfl (by first|exact trivial|(simp only[AllP];omega)|(simp(discharger:=omega)only[AllP,cA,cB];omega)|(simp only[AllP,cC,cD,cE,cF,cG];omega)) ?_|refine zn ?_|refine zb ?_|refine ze rfl ?_|refine zr ?_|refine zk ?_|refine zT rfl rfl rfl ?_|refine zU rfl rfl rfl ?_|refine zV rfl rfl rfl ?_|refine zf rfl ?_|refine zt rfl ?_)
    have hT8 := hT6.sm hs8
    refine o_call Words_nil rfl rfl rfl ?_
    rintro v w9 ⟨rfl, rfl⟩
    (repeat first|refine zA ?_|refine zB ?_|refine zC ?_|refine zD ?_|refine zE ?_|refine zg ?_|refine zo rfl rfl (by first|exact trivial|(simp only[AllP];omega)|(simp(discharger:=omega)only[AllP,cA,cB];omega)|(simp only[AllP,cC,cD,cE,cF,cG];omega)) ?_|refine zn ?_|refine zb ?_|refine ze rfl ?_|refine zr ?_|refine zk ?_|refine zT rfl rfl rfl ?_|refine zU rfl rfl rfl ?_|refine zV rfl rfl rfl ?_|refine zf rfl ?_|refine zt rfl ?_)
    refine o_call refWords_nil rfl rfl rfl ?_
    rintro v w10 ⟨rfl, rfl⟩
    refine o_call (sameWords_eq (l := []) (ad1 := none) (ad2 := none) (n1 := 0) (n2 := 0) rfl rfl rfl rfl (by omega)) rfl rfl rfl ?_
    rintro v w11 ⟨rfl, hs11⟩
    have hT11 := hT8.sm hs11
    (repeat first|refine zA ?_|refine zB ?_|refine zC ?_|refine zD ?_|refine zE ?_|refine zg ?_|refine zo rfl rfl (by first|exact trivial|(simp only[AllP];omega)|(simp(discharger:=omega)only[AllP,cA,cB];omega)|(simp only[AllP,cC,cD,cE,cF,cG];omega)) ?_|refine zn ?_|refine zb ?_|refine ze rfl ?_|refine zr ?_|refine zk ?_|refine zT rfl rfl rfl ?_|refine zU rfl rfl rfl ?_|refine zV rfl rfl rfl ?_|refine zf rfl ?_|refine zt rfl ?_)
    refine o_call (List_nil hT11) rfl rfl rfl ?_
    rintro v w12 ⟨a12, c12, rfl, hn12⟩
    have hT12 := hT11.kp hn12.kp (by simp)
    (repeat first|refine zA ?_|refine zB ?_|refine zC ?_|refine zD ?_|refine zE ?_|refine zg ?_|refine zo rfl rfl (by first|exact trivial|(simp only[AllP];omega)|(simp(discharger:=omega)only[AllP,cA,cB];omega)|(simp only[AllP,cC,cD,cE,cF,cG];omega)) ?_|refine zn ?_|refine zb ?_|refine ze rfl ?_|refine zr ?_|refine zk ?_|refine zT rfl rfl rfl ?_|refine zU rfl rfl rfl ?_|refine zV rfl rfl rfl ?_|refine zf rfl ?_|refine zt rfl ?_)
    refine o_call refList_nil rfl rfl rfl ?_
    rintro v w13 ⟨rfl, rfl⟩
    refine o_call (same_yes (l := []) (ad2 := none) (n1 := 0) (n2 := 0) hn12.read rfl rfl rfl (by omega)) rfl rfl rfl ?_
    rintro v w14 ⟨rfl, hs14⟩
    have hT14 := hT12.sm hs14
    (repeat first|refine zA ?_|refine zB ?_|refine zC ?_|refine zD ?_|refine zE ?_|refine zg ?_|refine zo rfl rfl (by first|exact trivial|(simp only[AllP];omega)|(simp(discharger:=omega)only[AllP,cA,cB];omega)|(simp only[AllP,cC,cD,cE,cF,cG];omega)) ?_|refine zn ?_|refine zb ?_|refine ze rfl ?_|refine zr ?_|refine zk ?_|refine zT rfl rfl rfl ?_|refine zU rfl rfl rfl ?_|refine zV rfl rfl rfl ?_|refine zf rfl ?_|refine zt rfl ?_)
    refine o_call (lives_ret hT14) rfl rfl rfl ?_
    rintro v w15 ⟨rfl, k15⟩
    (repeat first|refine zA ?_|refine zB ?_|refine zC ?_|refine zD ?_|refine zE ?_|refine zg ?_|refine zo rfl rfl (by first|exact trivial|(simp only[AllP];omega)|(simp(discharger:=omega)only[AllP,cA,cB];omega)|(simp only[AllP,cC,cD,cE,cF,cG];omega)) ?_|refine zn ?_|refine zb ?_|refine ze rfl ?_|refine zr ?_|refine zk ?_|refine zT rfl rfl rfl ?_|refine zU rfl rfl rfl ?_|refine zV rfl rfl rfl ?_|refine zf rfl ?_|refine zt rfl ?_)
    refine ⟨_, rfl, rfl, ?_⟩
    exact (((((((k1.trans k4).trans k5).trans k6).trans (hs8.kp [])).trans (hs11.kp [])).trans hn12.kp).trans (hs14.kp [])).trans k15

theorem wfU {x : Int} (h : (Lit.int .u64 x).wf = true) : 0 ≤ x ∧ x < 18446744073709551616 := by
  have := h
  simp [Lit.wf, IntKind.min, IntKind.max, IntKind.signed, IntKind.bits] at this
  omega
theorem IsRow.words {w : World} {a : Option Addr} {len cap : Nat} {zs : List Int} (h : IsRow .u64 w a len cap zs) : ∃ ws : List Nat, ReadS w a (ws.map U) ∧ ws.length = len ∧ WOk ws ∧ zs.take len = ws.map (fun (n : Nat) => (n : Int)) := by
  have hl := h.len_le
  have hw : ∀ x ∈ zs, 0 ≤ x ∧ x < 18446744073709551616 := by
    rcases h with ⟨_, _, _, rfl⟩ | ⟨x, _, _, _, _, _, hw⟩
    · simp
    · exact fun n hn => wfU (hw n hn)
  have hr := h.read.take len
  rw [← List.map_take] at hr
  have e1 : zs.take len = ((zs.take len).map Int.toNat).map (fun (n : Nat) => (n : Int)) := by
    rw [List.map_map]
    conv => lhs; rw [show zs.take len = (zs.take len).map id by simp]
    apply List.map_congr_left
    intro x hx
    have := hw x (List.mem_of_mem_take hx)
    simp only [id, Function.comp]; omega
  refine ⟨(zs.take len).map Int.toNat, ?_, by simp; omega, ?_, e1⟩
  · rw [e1] at hr
    rw [List.map_map] at hr
    have : (Value.int IntKind.u64 ∘ fun (n : Nat) => (n : Int)) = U := rfl
    rw [this] at hr; exact hr
  · intro y hy
    obtain ⟨x, hx, rfl⟩ := List.mem_map.1 hy
    have := hw x (List.mem_of_mem_take hx)
    omega
theorem bitsWords_walk (hT : TabW w) {ad : Option Addr} {len cap : Nat} {zs : List Int} (h : IsRow .u64 w ad len cap zs) (hb : zs.length ≤ 1048576) :
    Calls Tryd.prog 4 #[.slice ad len cap] w (fun e w' => e = .returned (.bool true) ∧ RowKit.Below w.heap.size w w') := by
  obtain ⟨ws, h1, h2, h3, h4⟩ := h.words
  have := h.len_le
  have := BitsWords_ret hT (c := cap) h1 h3 (by omega)
  rw [h2] at this
  exact this.calls
end Go.Vc
