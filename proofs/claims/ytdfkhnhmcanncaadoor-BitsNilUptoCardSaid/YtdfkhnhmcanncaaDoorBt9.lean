/- bits: BitsOrder. -/
import Derived.Test.YtdfkhnhmcanncaaDoorBt8
import Derived.Test.YtdfkhnhmcanncaaDoorVcArg
namespace Go.Vc
open Go Go.Proofs
set_option maxRecDepth 10000
variable {w : World}

def atI (pre : List Nat) : Int := match pre.getLast? with | some k => (k : Int) | none => -1
theorem atI_snoc (pre : List Nat) (k : Nat) : atI (pre ++ [k]) = (k : Int) := by simp [atI]
theorem atI_facts {ws pre post : List Nat} (h : elems ws = pre ++ post) : (∀ j, j ∈ pre → (j : Int) < atI pre + 1) ∧ 0 ≤ atI pre + 1 ∧ (∀ j, bit ws j = true → (j : Int) < atI pre + 1 → j ∈ pre) := by
  rcases List.eq_nil_or_concat pre with rfl | ⟨pre', k, rfl⟩
  · refine ⟨by simp, by simp [atI], fun j _ hj => ?_⟩
    simp [atI] at hj; omega
  · rw [List.concat_eq_append] at h ⊢
    rw [atI_snoc]
    rw [List.append_assoc] at h
    obtain ⟨h1, h2, h3⟩ := elems_split (k := k) (post := post) h
    refine ⟨fun j hj => ?_, by omega, fun j hb hj => ?_⟩
    · rcases List.mem_append.1 hj with hj | hj
      · have := h2 j hj; omega
      · simp at hj; omega
    · by_cases hlt : j < k
      · exact List.mem_append_left _ (h3 j hb hlt)
      · have : j = k := by omega
        subst this; simp
theorem nextV_at {ws pre post : List Nat} (h : elems ws = pre ++ post) : nextV ws (atI pre + 1) = .tuple #[I (max (hdI post) 0), .bool (decide (0 ≤ hdI post))] := by
  obtain ⟨h1, h2, h3⟩ := atI_facts h
  unfold nextV
  rw [nxI_elems h _ h1 h2 h3]
theorem atI_rng {ws pre post : List Nat} (h : elems ws = pre ++ post) (hl : ws.length ≤ 16384) : -1 ≤ atI pre ∧ atI pre < 1048576 := by
  have h0 := (atI_facts h).2.1
  refine ⟨by omega, ?_⟩
  rcases List.eq_nil_or_concat pre with rfl | ⟨pre', k, rfl⟩
  · simp [atI]
  · rw [List.concat_eq_append] at h ⊢
    rw [atI_snoc]
    have hb := bit_lt (mem_elems.1 (by rw [h]; simp : k ∈ elems ws))
    omega

theorem same_ret2 {ad1 ad2 : Option Addr} {l1 l2 : List Int} {n1 n2 c1 c2 : Nat} (h1 : ReadS w ad1 (l1.map I)) (h2 : ReadS w ad2 (l2.map I)) (e1 : l1.length = n1) (e2 : l2.length = n2) (hl : n1 ≤ 9223372036854775807) :
    Ret Tryd.prog 19 [.slice ad1 n1 c1, .slice ad2 n2 c2] w (fun v w' => v = .bool (decide (l1 = l2)) ∧ Sm w w') := by
  subst e1 e2
  exact same_ret h1 h2 hl
theorem ReadS.take {ad : Option Addr} {xs : List Value} (h : ReadS w ad xs) (n : Nat) : ReadS w ad (xs.take n) := by
  cases ad with
  | none => have : xs = [] := h; subst this; simp [ReadS]
  | some a => intro i v hv; exact h i v (by
      rw [List.getElem?_take] at hv
      split at hv
      · exact hv
      · cases hv)
theorem BitsOrder_ret (hT : TabW w) {ad : Option Addr} {l : List Int} {c : Nat} (h : ReadS w ad (l.map I)) (hl : l.length ≤ 1048576) (hrng : ∀ x ∈ l, -9223372036854775808 ≤ x ∧ x ≤ 9223372036854775807) {most : Int} (hmost : -9223372036854775808 ≤ most ∧ most ≤ 9223372036854775807) :
    Ret Tryd.prog 3 [.slice ad l.length c, I most] w (fun v w' => v = .bool true ∧ Kp [] w w') := by
  refine enter Tryd.call3 Tryd.func3 rfl rfl rfl rfl ?_
  (repeat first|refine zA ?_|refine zB ?_|refine zC ?_|refine zD ?_|refine zE ?_|refine zg ?_|refine zo rfl rfl (by first|exact trivial|(simp only[AllP];omega)|(simp(discharger:=omega)only[AllP,cA,cB];omega)|(simp only[AllP,cC,cD,cE,cF,cG];omega)) ?_|refine zn ?_|refine zb ?_|refine ze rfl ?_|refine zr ?_|refine zk ?_|refine zT rfl rfl rfl ?_|refine zU rfl rfl rfl ?_|refine zV rfl rfl rfl ?_|refine zf rfl ?_|refine zt rfl ?_)
  refine o_call (lives_ret hT) rfl rfl rfl ?_
  rintro v w1 ⟨rfl, k1⟩
  have hT1 := hT.kp k1 (by simp)
  (repeat first|refine zA ?_|refine zB ?_|refine zC ?_|refine zD ?_|refine zE ?_|refine zg ?_|refine zo rfl rfl (by first|exact trivial|(simp only[AllP];omega)|(simp(discharger:=omega)only[AllP,cA,cB];omega)|(simp only[AllP,cC,cD,cE,cF,cG];omega)) ?_|refine zn ?_|refine zb ?_|refine ze rfl ?_|refine zr ?_|refine zk ?_|refine zT rfl rfl rfl ?_|refine zU rfl rfl rfl ?_|refine zV rfl rfl rfl ?_|refine zf rfl ?_|refine zt rfl ?_)
  refine o_call (near_ret (h.kp k1 (by simp)) hl hrng) rfl rfl rfl ?_
  rintro v w2 ⟨adn, capn, rfl, hnear⟩
  have hT2 := hT1.kp hnear.kp (by simp)
  have hnl : (nearL l).length = l.length := by simp [nearL]
  (repeat first|refine zA ?_|refine zB ?_|refine zC ?_|refine zD ?_|refine zE ?_|refine zg ?_|refine zo rfl rfl (by first|exact trivial|(simp only[AllP];omega)|(simp(discharger:=omega)only[AllP,cA,cB];omega)|(simp only[AllP,cC,cD,cE,cF,cG];omega)) ?_|refine zn ?_|refine zb ?_|refine ze rfl ?_|refine zr ?_|refine zk ?_|refine zT rfl rfl rfl ?_|refine zU rfl rfl rfl ?_|refine zV rfl rfl rfl ?_|refine zf rfl ?_|refine zt rfl ?_)
  refine o_call (New_ret hT2 hnear.read (by omega)) rfl rfl rfl ?_
  rintro v w3 (⟨_, p, ad3, cap3, rfl, hset⟩ | ⟨hbad, _⟩)
  rotate_left
  · rw [near_ok] at hbad; cases hbad
  have hT3 := hT2.kp hset.kp (by simp)
  have hbits : ∀ j : Nat, bit (newW (nearL l) []) j = (nearL l).contains (j : Int) := fun j => by
    rw [bit_newW _ _ _ (near_ok l)]; simp [bit]
  generalize hws : newW (nearL l) [] = ws at hset hbits
  have hlen := hset.at_.len
  have hel := elems_len ws
  (repeat first|refine zA ?_|refine zB ?_|refine zC ?_|refine zD ?_|refine zE ?_|refine zg ?_|refine zo rfl rfl (by first|exact trivial|(simp only[AllP];omega)|(simp(discharger:=omega)only[AllP,cA,cB];omega)|(simp only[AllP,cC,cD,cE,cF,cG];omega)) ?_|refine zn ?_|refine zb ?_|refine ze rfl ?_|refine zr ?_|refine zk ?_|refine zT rfl rfl rfl ?_|refine zU rfl rfl rfl ?_|refine zV rfl rfl rfl ?_|refine zf rfl ?_|refine zt rfl ?_)
  refine o_call (List_ret hT3 hset.at_) rfl rfl rfl ?_
  rintro v w4 ⟨ad4, cap4, rfl, hlist⟩
  have hT4 := hT3.kp hlist.kp (by simp)
  have hs4 := hset.at_.kp hlist.kp (by simp)
  have hr4 := hlist.read
  rw [map_encI] at hr4
  (repeat first|refine zA ?_|refine zB ?_|refine zC ?_|refine zD ?_|refine zE ?_|refine zg ?_|refine zo rfl rfl (by first|exact trivial|(simp only[AllP];omega)|(simp(discharger:=omega)only[AllP,cA,cB];omega)|(simp only[AllP,cC,cD,cE,cF,cG];omega)) ?_|refine zn ?_|refine zb ?_|refine ze rfl ?_|refine zr ?_|refine zk ?_|refine zT rfl rfl rfl ?_|refine zU rfl rfl rfl ?_|refine zV rfl rfl rfl ?_|refine zf rfl ?_|refine zt rfl ?_)
  refine r_loop (α := List Nat × List Nat) [1, 5, 6, 8, 9, 10] (fun g => [I most, .slice adn (nearL l).length capn, ptr p, .slice ad4 (elems ws).length cap4, I (atI g.1), I g.1.length]) (fun g w5 => w4 = w5 ∧ elems ws = g.1 ++ g.2) (fun g => g.2.length) ([], elems ws) rfl ⟨rfl, rfl⟩ ?_
  rintro ⟨pre, post⟩ e w5 ⟨rfl, hpp⟩
  dsimp only at hpp ⊢
  have har := atI_rng hpp hlen
  have hlp : (elems ws).length = pre.length + post.length := by rw [hpp]; simp
  (repeat first|refine zA ?_|refine zB ?_|refine zC ?_|refine zD ?_|refine zE ?_|refine zg ?_|refine zo rfl rfl (by first|exact trivial|(simp only[AllP];omega)|(simp(discharger:=omega)only[AllP,cA,cB];omega)|(simp only[AllP,cC,cD,cE,cF,cG];omega)) ?_|refine zn ?_|refine zb ?_|refine ze rfl ?_|refine zr ?_|refine zk ?_|refine zT rfl rfl rfl ?_|refine zU rfl rfl rfl ?_|refine zV rfl rfl rfl ?_|refine zf rfl ?_|refine zt rfl ?_)
  refine r_if rfl (fun hc => ?_) (fun hc => ?_)
  · cases post with
    | nil => simp at hlp; omega
    | cons k rest =>
      have hb := (elems_split hpp).1
      have hkl := bit_lt hb
      have hlt : atI pre < (k : Int) := by
        obtain ⟨_, _, h3⟩ := atI_facts hpp
        apply Classical.byContradiction
        intro hn
        have h4 := h3 k hb (by omega)
        have := (elems_split hpp).2.1 k h4; omega
      (repeat first|refine zA ?_|refine zB ?_|refine zC ?_|refine zD ?_|refine zE ?_|refine zg ?_|refine zo rfl rfl (by first|exact trivial|(simp only[AllP];omega)|(simp(discharger:=omega)only[AllP,cA,cB];omega)|(simp only[AllP,cC,cD,cE,cF,cG];omega)) ?_|refine zn ?_|refine zb ?_|refine ze rfl ?_|refine zr ?_|refine zk ?_|refine zT rfl rfl rfl ?_|refine zU rfl rfl rfl ?_|refine zV rfl rfl rfl ?_|refine zf rfl ?_|refine zt rfl ?_)
      refine o_call (Next_ret hT4 hs4 (n := atI pre + 1) (by omega)) rfl rfl rfl ?_
      rintro v w6 ⟨rfl, rfl⟩
      have hnv : nextV ws (atI pre + 1) = .tuple #[I (k : Int), .bool true] := by
        rw [nextV_at hpp]
        have : hdI (k :: rest) = (k : Int) := rfl
        rw [this, Int.max_eq_left (by omega), decide_eq_true (by omega : (0 : Int) ≤ (k : Int))]
      rw [hnv]
      (repeat first|refine zA ?_|refine zB ?_|refine zC ?_|refine zD ?_|refine zE ?_|refine zg ?_|refine zo rfl rfl (by first|exact trivial|(simp only[AllP];omega)|(simp(discharger:=omega)only[AllP,cA,cB];omega)|(simp only[AllP,cC,cD,cE,cF,cG];omega)) ?_|refine zn ?_|refine zb ?_|refine ze rfl ?_|refine zr ?_|refine zk ?_|refine zT rfl rfl rfl ?_|refine zU rfl rfl rfl ?_|refine zV rfl rfl rfl ?_|refine zf rfl ?_|refine zt rfl ?_)
      obtain ⟨b4, o4, rfl, _, hc4⟩ := hr4.at_ (by simp; omega)
      have hget : (elems ws)[pre.length]? = some k := by rw [hpp]; simp
      (repeat first|refine zA ?_|refine zB ?_|refine zC ?_|refine zD ?_|refine zE ?_|refine zg ?_|refine zo rfl rfl (by first|exact trivial|(simp only[AllP];omega)|(simp(discharger:=omega)only[AllP,cA,cB];omega)|(simp only[AllP,cC,cD,cE,cF,cG];omega)) ?_|refine zn ?_|refine zb ?_|refine ze rfl ?_|refine zr ?_|refine zk ?_|refine zT rfl rfl rfl ?_|refine zU rfl rfl rfl ?_|refine zV rfl rfl rfl ?_|refine zf rfl ?_|refine zt rfl ?_)
      refine o_loadc (v := I (k : Int)) rfl (hc4 pre.length _ (by simp [hget])) rfl rfl rfl rfl ?_
      (repeat first|refine zA ?_|refine zB ?_|refine zC ?_|refine zD ?_|refine zE ?_|refine zg ?_|refine zo rfl rfl (by first|exact trivial|(simp only[AllP];omega)|(simp(discharger:=omega)only[AllP,cA,cB];omega)|(simp only[AllP,cC,cD,cE,cF,cG];omega)) ?_|refine zn ?_|refine zb ?_|refine ze rfl ?_|refine zr ?_|refine zk ?_|refine zT rfl rfl rfl ?_|refine zU rfl rfl rfl ?_|refine zV rfl rfl rfl ?_|refine zf rfl ?_|refine zt rfl ?_)
      refine o_is false 10 false rfl rfl rfl (by simp) ?_
      (repeat first|refine zA ?_|refine zB ?_|refine zC ?_|refine zD ?_|refine zE ?_|refine zg ?_|refine zo rfl rfl (by first|exact trivial|(simp only[AllP];omega)|(simp(discharger:=omega)only[AllP,cA,cB];omega)|(simp only[AllP,cC,cD,cE,cF,cG];omega)) ?_|refine zn ?_|refine zb ?_|refine ze rfl ?_|refine zr ?_|refine zk ?_|refine zT rfl rfl rfl ?_|refine zU rfl rfl rfl ?_|refine zV rfl rfl rfl ?_|refine zf rfl ?_|refine zt rfl ?_)
      refine o_is false 15 false rfl rfl rfl (by simp; omega) ?_
      (repeat first|refine zA ?_|refine zB ?_|refine zC ?_|refine zD ?_|refine zE ?_|refine zg ?_|refine zo rfl rfl (by first|exact trivial|(simp only[AllP];omega)|(simp(discharger:=omega)only[AllP,cA,cB];omega)|(simp only[AllP,cC,cD,cE,cF,cG];omega)) ?_|refine zn ?_|refine zb ?_|refine ze rfl ?_|refine zr ?_|refine zk ?_|refine zT rfl rfl rfl ?_|refine zU rfl rfl rfl ?_|refine zV rfl rfl rfl ?_|refine zf rfl ?_|refine zt rfl ?_)
      refine o_call (Has_ret hs4 (k : Int)) rfl rfl rfl ?_
      rintro v w7 ⟨rfl, rfl⟩
      have hh : hasB ws (k : Int) = true := by simp [hasB, hb]
      rw [hh]
      (repeat first|refine zA ?_|refine zB ?_|refine zC ?_|refine zD ?_|refine zE ?_|refine zg ?_|refine zo rfl rfl (by first|exact trivial|(simp only[AllP];omega)|(simp(discharger:=omega)only[AllP,cA,cB];omega)|(simp only[AllP,cC,cD,cE,cF,cG];omega)) ?_|refine zn ?_|refine zb ?_|refine ze rfl ?_|refine zr ?_|refine zk ?_|refine zT rfl rfl rfl ?_|refine zU rfl rfl rfl ?_|refine zV rfl rfl rfl ?_|refine zf rfl ?_|refine zt rfl ?_)
      refine ⟨(pre ++ [k], rest), ?_, ⟨rfl, by dsimp only; rw [hpp]; simp⟩, by simp⟩
      dsimp only
      rw [atI_snoc, List.length_append]; rfl
  · have hpost : post = [] := by
      cases post with
      | nil => rfl
      | cons k r => simp only [List.length_cons] at hlp; omega
    subst hpost
    rw [List.append_nil] at hpp
    subst hpp
    (repeat first|refine zA ?_|refine zB ?_|refine zC ?_|refine zD ?_|refine zE ?_|refine zg ?_|refine zo rfl rfl (by first|exact trivial|(simp only[AllP];omega)|(simp(discharger:=omega)only[AllP,cA,cB];omega)|(simp only[AllP,cC,cD,cE,cF,cG];omega)) ?_|refine zn ?_|refine zb ?_|refine ze rfl ?_|refine zr ?_|refine zk ?_|refine zT rfl rfl rfl ?_|refine zU rfl rfl rfl ?_|refine zV rfl rfl rfl ?_|refine zf rfl ?_|refine zt rfl ?_)
    refine o_call (Next_ret hT4 hs4 (n := atI (elems ws) + 1) (by omega)) rfl rfl rfl ?_
    rintro v w6 ⟨rfl, rfl⟩
    rw [nextV_at (pre := elems ws) (post := []) (by simp)]
    have hnv : (Value.tuple #[I (max (hdI []) 0), .bool (decide (0 ≤ hdI []))]) = .tuple #[I 0, .bool false] := rfl
    rw [hnv]
    (repeat first|refine zA ?_|refine zB ?_|refine zC ?_|refine zD ?_|refine zE ?_|refine zg ?_|refine zo rfl rfl (by first|exact trivial|(simp only[AllP];omega)|(simp(discharger:=omega)only[AllP,cA,cB];omega)|(simp only[AllP,cC,cD,cE,cF,cG];omega)) ?_|refine zn ?_|refine zb ?_|refine ze rfl ?_|refine zr ?_|refine zk ?_|refine zT rfl rfl rfl ?_|refine zU rfl rfl rfl ?_|refine zV rfl rfl rfl ?_|refine zf rfl ?_|refine zt rfl ?_)
    refine r_loop (α := Nat) [1, 5, 6, 8, 14, 15] (fun i => [I most, .slice adn (nearL l).length capn, ptr p, .slice ad4 (elems ws).length cap4, .bool false, I i]) (fun i w7 => w6 = w7 ∧ i ≤ l.length) (fun i => l.length - i) 0 rfl ⟨rfl, by omega⟩ ?_
    rintro i e w7 ⟨rfl, hi⟩
    (repeat first|refine zA ?_|refine zB ?_|refine zC ?_|refine zD ?_|refine zE ?_|refine zg ?_|refine zo rfl rfl (by first|exact trivial|(simp only[AllP];omega)|(simp(discharger:=omega)only[AllP,cA,cB];omega)|(simp only[AllP,cC,cD,cE,cF,cG];omega)) ?_|refine zn ?_|refine zb ?_|refine ze rfl ?_|refine zr ?_|refine zk ?_|refine zT rfl rfl rfl ?_|refine zU rfl rfl rfl ?_|refine zV rfl rfl rfl ?_|refine zf rfl ?_|refine zt rfl ?_)
    refine r_if rfl (fun hc2 => ?_) (fun hc2 => ?_)
    · have hlt : i < (nearL l).length := by omega
      have hrn := (hnear.read.kp hset.kp (by simp)).kp hlist.kp (by simp)
      obtain ⟨b5, o5, rfl, _, hc5⟩ := hrn.at_ (by simp; omega)
      have hmem : (nearL l)[i] ∈ nearL l := List.getElem_mem hlt
      have hok : 0 ≤ (nearL l)[i] := by
        have := List.all_eq_true.1 (near_ok l) _ hmem
        simp at this; omega
      (repeat first|refine zA ?_|refine zB ?_|refine zC ?_|refine zD ?_|refine zE ?_|refine zg ?_|refine zo rfl rfl (by first|exact trivial|(simp only[AllP];omega)|(simp(discharger:=omega)only[AllP,cA,cB];omega)|(simp only[AllP,cC,cD,cE,cF,cG];omega)) ?_|refine zn ?_|refine zb ?_|refine ze rfl ?_|refine zr ?_|refine zk ?_|refine zT rfl rfl rfl ?_|refine zU rfl rfl rfl ?_|refine zV rfl rfl rfl ?_|refine zf rfl ?_|refine zt rfl ?_)
      refine o_loadc (v := I (nearL l)[i]) rfl (hc5 i _ (by simp [hlt])) rfl rfl rfl rfl ?_
      (repeat first|refine zA ?_|refine zB ?_|refine zC ?_|refine zD ?_|refine zE ?_|refine zg ?_|refine zo rfl rfl (by first|exact trivial|(simp only[AllP];omega)|(simp(discharger:=omega)only[AllP,cA,cB];omega)|(simp only[AllP,cC,cD,cE,cF,cG];omega)) ?_|refine zn ?_|refine zb ?_|refine ze rfl ?_|refine zr ?_|refine zk ?_|refine zT rfl rfl rfl ?_|refine zU rfl rfl rfl ?_|refine zV rfl rfl rfl ?_|refine zf rfl ?_|refine zt rfl ?_)
      refine o_call (Has_ret hs4 (nearL l)[i]) rfl rfl rfl ?_
      rintro v w8 ⟨rfl, rfl⟩
      have hh : hasB ws (nearL l)[i] = true := by
        unfold hasB
        rw [hbits, Int.toNat_of_nonneg hok]
        simp [hok]
      rw [hh]
      (repeat first|refine zA ?_|refine zB ?_|refine zC ?_|refine zD ?_|refine zE ?_|refine zg ?_|refine zo rfl rfl (by first|exact trivial|(simp only[AllP];omega)|(simp(discharger:=omega)only[AllP,cA,cB];omega)|(simp only[AllP,cC,cD,cE,cF,cG];omega)) ?_|refine zn ?_|refine zb ?_|refine ze rfl ?_|refine zr ?_|refine zk ?_|refine zT rfl rfl rfl ?_|refine zU rfl rfl rfl ?_|refine zV rfl rfl rfl ?_|refine zf rfl ?_|refine zt rfl ?_)
      exact ⟨i + 1, rfl, ⟨rfl, by omega⟩, by omega⟩
    · (repeat first|refine zA ?_|refine zB ?_|refine zC ?_|refine zD ?_|refine zE ?_|refine zg ?_|refine zo rfl rfl (by first|exact trivial|(simp only[AllP];omega)|(simp(discharger:=omega)only[AllP,cA,cB];omega)|(simp only[AllP,cC,cD,cE,cF,cG];omega)) ?_|refine zn ?_|refine zb ?_|refine ze rfl ?_|refine zr ?_|refine zk ?_|refine zT rfl rfl rfl ?_|refine zU rfl rfl rfl ?_|refine zV rfl rfl rfl ?_|refine zf rfl ?_|refine zt rfl ?_)
      refine o_call (All_ret hT4 hs4) rfl rfl rfl ?_
      rintro v w8 ⟨Fp, hseq, k8, hnew8⟩
      have hg := gone_ret hseq (by omega) (most := -1) (by decide)
      obtain ⟨f, lb, rfl, hI⟩ := hseq.is
      have e1 : goneL (elems ws) (-1) = elems ws := rfl
      rw [e1] at hg
      (repeat first|refine zA ?_|refine zB ?_|refine zC ?_|refine zD ?_|refine zE ?_|refine zg ?_|refine zo rfl rfl (by first|exact trivial|(simp only[AllP];omega)|(simp(discharger:=omega)only[AllP,cA,cB];omega)|(simp only[AllP,cC,cD,cE,cF,cG];omega)) ?_|refine zn ?_|refine zb ?_|refine ze rfl ?_|refine zr ?_|refine zk ?_|refine zT rfl rfl rfl ?_|refine zU rfl rfl rfl ?_|refine zV rfl rfl rfl ?_|refine zf rfl ?_|refine zt rfl ?_)
      refine o_call hg rfl rfl rfl ?_
      rintro v w9 ⟨ad9, cap9, rfl, hn9⟩
      have k9 := k8.trans hn9.kp
      have hT9 := hT4.kp k9 (by simp)
      have hs9 := hs4.kp k9 (by simp)
      have hr9 := hr4.kp k9 (by simp)
      (repeat first|refine zA ?_|refine zB ?_|refine zC ?_|refine zD ?_|refine zE ?_|refine zg ?_|refine zo rfl rfl (by first|exact trivial|(simp only[AllP];omega)|(simp(discharger:=omega)only[AllP,cA,cB];omega)|(simp only[AllP,cC,cD,cE,cF,cG];omega)) ?_|refine zn ?_|refine zb ?_|refine ze rfl ?_|refine zr ?_|refine zk ?_|refine zT rfl rfl rfl ?_|refine zU rfl rfl rfl ?_|refine zV rfl rfl rfl ?_|refine zf rfl ?_|refine zt rfl ?_)
      refine o_call (All_ret hT9 hs9) rfl rfl rfl ?_
      rintro v w10 ⟨Fp2, hseq2, k10, hnew10⟩
      have hg2 := gone_ret hseq2 (by omega) hmost
      obtain ⟨f2, lb2, rfl, hI2⟩ := hseq2.is
      (repeat first|refine zA ?_|refine zB ?_|refine zC ?_|refine zD ?_|refine zE ?_|refine zg ?_|refine zo rfl rfl (by first|exact trivial|(simp only[AllP];omega)|(simp(discharger:=omega)only[AllP,cA,cB];omega)|(simp only[AllP,cC,cD,cE,cF,cG];omega)) ?_|refine zn ?_|refine zb ?_|refine ze rfl ?_|refine zr ?_|refine zk ?_|refine zT rfl rfl rfl ?_|refine zU rfl rfl rfl ?_|refine zV rfl rfl rfl ?_|refine zf rfl ?_|refine zt rfl ?_)
      refine o_call hg2 rfl rfl rfl ?_
      rintro v w11 ⟨ad11, cap11, rfl, hn11⟩
      have k11 := k10.trans hn11.kp
      have hs11 := hs9.kp k11 (by simp)
      have hr11 := hr9.kp k11 (by simp)
      have hra := hn9.read.kp k11 (by simp)
      have hrs := hn11.read
      rw [map_encI] at hra hrs
      (repeat first|refine zA ?_|refine zB ?_|refine zC ?_|refine zD ?_|refine zE ?_|refine zg ?_|refine zo rfl rfl (by first|exact trivial|(simp only[AllP];omega)|(simp(discharger:=omega)only[AllP,cA,cB];omega)|(simp only[AllP,cC,cD,cE,cF,cG];omega)) ?_|refine zn ?_|refine zb ?_|refine ze rfl ?_|refine zr ?_|refine zk ?_|refine zT rfl rfl rfl ?_|refine zU rfl rfl rfl ?_|refine zV rfl rfl rfl ?_|refine zf rfl ?_|refine zt rfl ?_)
      refine o_call (Len_ret hs11) rfl rfl rfl ?_
      rintro v w12 ⟨rfl, rfl⟩
      (repeat first|refine zA ?_|refine zB ?_|refine zC ?_|refine zD ?_|refine zE ?_|refine zg ?_|refine zo rfl rfl (by first|exact trivial|(simp only[AllP];omega)|(simp(discharger:=omega)only[AllP,cA,cB];omega)|(simp only[AllP,cC,cD,cE,cF,cG];omega)) ?_|refine zn ?_|refine zb ?_|refine ze rfl ?_|refine zr ?_|refine zk ?_|refine zT rfl rfl rfl ?_|refine zU rfl rfl rfl ?_|refine zV rfl rfl rfl ?_|refine zf rfl ?_|refine zt rfl ?_)
      refine o_is false 8 false rfl rfl rfl (by simp) ?_
      (repeat first|refine zA ?_|refine zB ?_|refine zC ?_|refine zD ?_|refine zE ?_|refine zg ?_|refine zo rfl rfl (by first|exact trivial|(simp only[AllP];omega)|(simp(discharger:=omega)only[AllP,cA,cB];omega)|(simp only[AllP,cC,cD,cE,cF,cG];omega)) ?_|refine zn ?_|refine zb ?_|refine ze rfl ?_|refine zr ?_|refine zk ?_|refine zT rfl rfl rfl ?_|refine zU rfl rfl rfl ?_|refine zV rfl rfl rfl ?_|refine zf rfl ?_|refine zt rfl ?_)
      refine o_call (same_ret2 hra hr11 (by simp) (by simp) (by omega)) rfl rfl rfl ?_
      rintro v w13 ⟨rfl, hs13⟩
      (repeat first|refine zA ?_|refine zB ?_|refine zC ?_|refine zD ?_|refine zE ?_|refine zg ?_|refine zo rfl rfl (by first|exact trivial|(simp only[AllP];omega)|(simp(discharger:=omega)only[AllP,cA,cB];omega)|(simp only[AllP,cC,cD,cE,cF,cG];omega)) ?_|refine zn ?_|refine zb ?_|refine ze rfl ?_|refine zr ?_|refine zk ?_|refine zT rfl rfl rfl ?_|refine zU rfl rfl rfl ?_|refine zV rfl rfl rfl ?_|refine zf rfl ?_|refine zt rfl ?_)
      refine r_no rfl (by simp) ?_
      (repeat first|refine zA ?_|refine zB ?_|refine zC ?_|refine zD ?_|refine zE ?_|refine zg ?_|refine zo rfl rfl (by first|exact trivial|(simp only[AllP];omega)|(simp(discharger:=omega)only[AllP,cA,cB];omega)|(simp only[AllP,cC,cD,cE,cF,cG];omega)) ?_|refine zn ?_|refine zb ?_|refine ze rfl ?_|refine zr ?_|refine zk ?_|refine zT rfl rfl rfl ?_|refine zU rfl rfl rfl ?_|refine zV rfl rfl rfl ?_|refine zf rfl ?_|refine zt rfl ?_)
      have hk13 := hs13.kp []
      have kall : Kp [] w w13 := ((((((k1.trans hnear.kp).trans hset.kp).trans hlist.kp).trans k9).trans k11).trans hk13)
      have hcl := hlist.own.le_cap
      refine o_bool [1, 8, 17] [I most, .slice ad4 (elems ws).length cap4, .slice ad11 (goneL (elems ws) most).length cap11] 118 (decide (0 ≤ most ∧ most < ((elems ws).length : Int))) (fun w => w = w13) ?_ ?_
      · refine o_split 2 true rfl rfl rfl (fun hb => ?_) (fun hb => ?_)
        · have hb' : 0 ≤ most := by simpa using hb
          (repeat first|refine zo rfl rfl (by first|exact trivial|(simp only[AllP];omega)|(simp(discharger:=omega)only[AllP,cA,cB];omega)|(simp only[AllP,cC,cD,cE,cF,cG];omega)) ?_|refine zn ?_|refine zT rfl rfl rfl ?_|refine zU rfl rfl rfl ?_|refine zV rfl rfl rfl ?_)
          exact ⟨rfl, ⟨_, rfl, by simp [hb']⟩, rfl⟩
        · have hb' : ¬ 0 ≤ most := by simpa using hb
          (repeat first|refine zo rfl rfl (by first|exact trivial|(simp only[AllP];omega)|(simp(discharger:=omega)only[AllP,cA,cB];omega)|(simp only[AllP,cC,cD,cE,cF,cG];omega)) ?_|refine zn ?_|refine zT rfl rfl rfl ?_|refine zU rfl rfl rfl ?_|refine zV rfl rfl rfl ?_)
          exact ⟨rfl, ⟨_, rfl, by simp [hb']⟩, rfl⟩
      rintro e w14 rfl
      have hr14 := hr11.kp hk13 (by simp)
      have hrs14 := hrs.kp hk13 (by simp)
      refine r_if rfl (fun hc3 => ?_) (fun hc3 => ?_)
      · have eg : goneL (elems ws) most = (elems ws).take most.toNat := by unfold goneL; rw [if_pos hc3.1]
        have hlt : most.toNat ≤ (elems ws).length := by omega
        rw [eg] at hrs14 ⊢
        (repeat first|refine zA ?_|refine zB ?_|refine zC ?_|refine zD ?_|refine zE ?_|refine zg ?_|refine zo rfl rfl (by first|exact trivial|(simp only[AllP];omega)|(simp(discharger:=omega)only[AllP,cA,cB];omega)|(simp only[AllP,cC,cD,cE,cF,cG];omega)) ?_|refine zn ?_|refine zb ?_|refine ze rfl ?_|refine zr ?_|refine zk ?_|refine zT rfl rfl rfl ?_|refine zU rfl rfl rfl ?_|refine zV rfl rfl rfl ?_|refine zf rfl ?_|refine zt rfl ?_)
        have hrt := hr14.take most.toNat
        rw [← List.map_take, ← List.map_take] at hrt
        refine o_call (same_ret2 hrs14 hrt (by simp) (by simp; omega) (by simp; omega)) rfl rfl rfl ?_
        rintro v w15 ⟨rfl, hs15⟩
        (repeat first|refine zA ?_|refine zB ?_|refine zC ?_|refine zD ?_|refine zE ?_|refine zg ?_|refine zo rfl rfl (by first|exact trivial|(simp only[AllP];omega)|(simp(discharger:=omega)only[AllP,cA,cB];omega)|(simp only[AllP,cC,cD,cE,cF,cG];omega)) ?_|refine zn ?_|refine zb ?_|refine ze rfl ?_|refine zr ?_|refine zk ?_|refine zT rfl rfl rfl ?_|refine zU rfl rfl rfl ?_|refine zV rfl rfl rfl ?_|refine zf rfl ?_|refine zt rfl ?_)
        exact ⟨_, rfl, by simp, kall.trans (hs15.kp [])⟩
      · have eg : goneL (elems ws) most = elems ws := by
          unfold goneL
          split
          · exact List.take_of_length_le (by omega)
          · rfl
        rw [eg] at hrs14 ⊢
        (repeat first|refine zA ?_|refine zB ?_|refine zC ?_|refine zD ?_|refine zE ?_|refine zg ?_|refine zo rfl rfl (by first|exact trivial|(simp only[AllP];omega)|(simp(discharger:=omega)only[AllP,cA,cB];omega)|(simp only[AllP,cC,cD,cE,cF,cG];omega)) ?_|refine zn ?_|refine zb ?_|refine ze rfl ?_|refine zr ?_|refine zk ?_|refine zT rfl rfl rfl ?_|refine zU rfl rfl rfl ?_|refine zV rfl rfl rfl ?_|refine zf rfl ?_|refine zt rfl ?_)
        refine o_call (same_ret2 hrs14 hr14 (by simp) (by simp) (by omega)) rfl rfl rfl ?_
        rintro v w15 ⟨rfl, hs15⟩
        (repeat first|refine zA ?_|refine zB ?_|refine zC ?_|refine zD ?_|refine zE ?_|refine zg ?_|refine zo rfl rfl (by first|exact trivial|(simp only[AllP];omega)|(simp(discharger:=omega)only[AllP,cA,cB];omega)|(simp only[AllP,cC,cD,cE,cF,cG];omega)) ?_|refine zn ?_|refine zb ?_|refine ze rfl ?_|refine zr ?_|refine zk ?_|refine zT rfl rfl rfl ?_|refine zU rfl rfl rfl ?_|refine zV rfl rfl rfl ?_|refine zf rfl ?_|refine zt rfl ?_)
        exact ⟨_, rfl, by simp, kall.trans (hs15.kp [])⟩

/-! ### As the rows want it -/
theorem Ret.calls {P : Program} {f : FuncId} {vs : List Value} {w : World} (h : Ret P f vs w (fun v w' => v = .bool true ∧ Kp [] w w')) : Calls P f ⟨vs⟩ w (fun e w' => e = .returned (.bool true) ∧ RowKit.Below w.heap.size w w') :=
  h.2.mono fun _ _ ⟨_, he, hv, kp⟩ => ⟨by rw [he, hv], kp.below⟩
theorem wf64 {x : Int} (h : (Lit.int .i64 x).wf = true) : -9223372036854775808 ≤ x ∧ x ≤ 9223372036854775807 := by
  simpa [Lit.wf, IntKind.min, IntKind.max, IntKind.signed, IntKind.bits] using h
theorem IsRow.ints {w : World} {a : Option Addr} {len cap : Nat} {zs : List Int} (h : IsRow .i64 w a len cap zs) : ReadS w a ((zs.take len).map I) ∧ (zs.take len).length = len ∧ ∀ x ∈ zs.take len, -9223372036854775808 ≤ x ∧ x ≤ 9223372036854775807 := by
  have hl := h.len_le
  refine ⟨?_, by simp; omega, fun x hx => ?_⟩
  · rw [List.map_take]; exact h.read.take len
  · obtain ⟨i, hi⟩ := List.getElem?_of_mem (List.mem_of_mem_take hx)
    have := h.rng64 i
    rw [List.getD_eq_getElem?_getD, hi] at this
    exact this
theorem bitsOrder_walk (hT : TabW w) {ad : Option Addr} {len cap : Nat} {zs : List Int} (h : IsRow .i64 w ad len cap zs) (hb : zs.length ≤ 1048576) {most : Int} (hm : (Lit.int .i64 most).wf = true) :
    Calls Tryd.prog 3 #[.slice ad len cap, .int .i64 most] w (fun e w' => e = .returned (.bool true) ∧ RowKit.Below w.heap.size w w') := by
  obtain ⟨h1, h2, h3⟩ := h.ints
  have := BitsOrder_ret hT (c := cap) h1 (by simp; omega) h3 (wf64 hm)
  rw [h2] at this
  exact this.calls
end Go.Vc
