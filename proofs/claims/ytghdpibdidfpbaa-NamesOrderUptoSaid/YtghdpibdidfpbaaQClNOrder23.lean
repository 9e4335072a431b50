/- The law NamesOrder as a call. -/
import Derived.Test.YtghdpibdidfpbaaQClNOrder20
import Derived.Test.YtghdpibdidfpbaaQClNOrder21
import Derived.Test.YtghdpibdidfpbaaQClNOrder22
namespace Go.Vc
open Go Go.Proofs
set_option maxRecDepth 10000
variable {w : World}
theorem addL_nodup {l : List Str} {s : Str} (h : l.Nodup) : (addL l s).Nodup := by
  unfold addL
  split
  · rename_i c
    have hn := nidx_none.1 c.2.1
    refine List.nodup_append.2 ⟨h, by simp, fun x hx y hy e => ?_⟩
    simp at hy
    subst hy e
    exact hn hx
  · exact h
theorem addL_len {l : List Str} {s : Str} : (addL l s).length ≤ l.length + 1 := by
  unfold addL; split <;> simp
/-- how many of the first names are near enough -/
def cntN (l : List Str) (s : Str) (most : Int) (i : Nat) : Nat := ((List.range i).filter fun j => decide ((dist s (l.getD j []) : Int) ≤ most)).length
theorem cntN_succ (l : List Str) (s : Str) (most : Int) (i : Nat) : cntN l s most (i + 1) = cntN l s most i + if (dist s (l.getD i []) : Int) ≤ most then 1 else 0 := by
  unfold cntN
  rw [List.range_succ, List.filter_append, List.length_append]
  congr 1
  by_cases h : (dist s (l.getD i []) : Int) ≤ most
  · rw [if_pos h, List.filter_cons_of_pos (p := fun j => decide ((dist s (l.getD j []) : Int) ≤ most)) (decide_eq_true h)]; rfl
  · rw [if_neg h, List.filter_cons_of_neg (p := fun j => decide ((dist s (l.getD j []) : Int) ≤ most)) (by simpa using h)]; rfl
theorem cntN_le (l : List Str) (s : Str) (most : Int) (i : Nat) : cntN l s most i ≤ i := by
  unfold cntN
  have := List.length_filter_le (fun j => decide ((dist s (l.getD j []) : Int) ≤ most)) (List.range i)
  simpa using this
theorem cntN_all (l : List Str) (s : Str) (most : Int) : (nearOf l s most).length = cntN l s most l.length := by
  unfold nearOf nrOut nums cntN
  rw [List.length_map, List.filter_map, List.length_map]
  rfl
set_option maxHeartbeats 12800000 in
theorem namesOrder_ret {ad : Option Addr} {cap : Nat} (list : List Str) (hr : ReadS w ad (list.map S)) (hs : ∀ s ∈ list, s.length ≤ 9223372036854775807) (hn : list.length ≤ 9223372036854775807) (name : Str) (most : Int) (hmost : -9223372036854775808 ≤ most ∧ most ≤ 9223372036854775807) (least : Nat) :
    Ret Try.prog 7 [.agg ⟨[.slice ad list.length cap, S name, I most, .float .f64 least]⟩] w (fun v w' => v = .bool true ∧ Kp [] w w') := by
  refine enter Try.call7 Try.func7 rfl rfl rfl rfl ?_
  (repeat first|refine zA ?_|refine zg ?_)
  refine o_box rfl rfl rfl ?_
  intro b1 w1 hb1 hu1
  have hB1 : Blk w1 b1 [.slice ad list.length cap, S name, I most, .float .f64 least] 38 := hu1.blk
  have kp01 : Kp [] w w1 := hu1.kp [] (.inr (by omega))
  have hr1 := hr.kp kp01 (by simp)
  (repeat first|refine zA ?_|refine zg ?_|refine zo rfl rfl trivial ?_|refine zn ?_)
  refine o_load rfl hB1 rfl rfl rfl rfl rfl ?_
  (repeat first|refine zA ?_|refine zg ?_|refine zo rfl rfl trivial ?_|refine zn ?_)
  refine o_load rfl hB1 rfl rfl rfl rfl rfl ?_
  (repeat first|refine zA ?_|refine zg ?_|refine zo rfl rfl trivial ?_|refine zn ?_)
  refine o_load rfl hB1 rfl rfl rfl rfl rfl ?_
  (repeat first|refine zA ?_|refine zg ?_|refine zo rfl rfl trivial ?_|refine zn ?_)
  refine o_call (new_ret (ad := none) (cap := 0) [] rfl (by simp) (by simp)) rfl rfl rfl ?_
  intro v w2 hp
  obtain ⟨p, fp, m, ad1, cap1, rfl, hT, kp2, hfp⟩ : NewPost w1 w2 v (some [], 0) := hp
  (repeat first|refine zA ?_|refine zB ?_|refine zg ?_|refine zo rfl rfl trivial ?_|refine zn ?_|refine zU rfl rfl rfl ?_)
  refine o_call (num_ret _ _) rfl rfl rfl ?_
  rintro v w1' ⟨rfl, rfl⟩
  (repeat first|refine zo rfl rfl trivial ?_|refine zU rfl rfl rfl ?_)
  refine o_is false _ _ rfl rfl rfl (by decide) ?_
  refine o_call works_ret rfl rfl rfl ?_
  rintro v w3 ⟨rfl, kp3⟩
  have hT3 := hT.kp kp3 (by simp)
  have k3 := kp2.trans kp3
  (repeat first|refine zA ?_|refine zB ?_|refine zg ?_|refine zo rfl rfl trivial ?_|refine zn ?_|refine zb ?_|refine zk ?_|refine zf rfl ?_)
  refine r_loop (α := Nat × List Str) [1, 3, 4, 5, 6, 8] (fun g => [ptr b1, .slice ad list.length cap, I most, .float .f64 least, ptr p, I g.1])
    (fun g W => g.1 ≤ list.length ∧ g.1 ≤ 60 ∧ g.2.length ≤ g.1 ∧ g.2.Nodup ∧ Kp [] w1 W ∧ ∃ fp m ad cap, Tab W p fp g.2 m ad cap ∧ ∀ b, b ∈ fp → w1.heap.size ≤ b) (fun g => list.length - g.1) (0, []) rfl
    ⟨by omega, by omega, by simp, by simp, k3, fp, m, ad1, cap1, hT3, hfp⟩ ?_
  rintro ⟨i, l⟩ e W ⟨hi, hi2, hal, hnd, kpW, fpW, mW, adW, capW, hTW, hfW⟩
  dsimp only at hi hi2 hal hnd hTW ⊢
  refine r_seq ?_
  refine r_seq ?_
  refine r_cut (α := Bool) [1, 3, 4, 5, 6, 8, 63] (fun z => [ptr b1, .slice ad list.length cap, I most, .float .f64 least, ptr p, I i, .bool z]) (fun z W' => W' = W ∧ (z = true → i < list.length ∧ i < 60)) ?_ ?_
  · (repeat first|refine zg ?_|refine zo rfl rfl trivial ?_)
    refine o_split _ _ rfl rfl rfl (fun h1 => ?_) (fun h1 => ?_)
    · have h1 : (i : Int) < list.length := of_decide_eq_true h1
      (repeat first|refine zo rfl rfl trivial ?_|refine zn ?_)
      exact ⟨_, rfl, rfl, fun h => ⟨by omega, by have := of_decide_eq_true h; omega⟩⟩
    · (repeat first|refine zo rfl rfl trivial ?_|refine zn ?_)
      exact ⟨_, rfl, rfl, (fun h => by cases h)⟩
  rintro z e1 W1 ⟨rfl, hz1⟩
  cases z with
  | true =>
    obtain ⟨hil, hi60⟩ := hz1 rfl
    obtain ⟨s, hsx⟩ : ∃ s, list[i]? = some s := ⟨_, List.getElem?_eq_getElem hil⟩
    have hsl : s.length ≤ 9223372036854775807 := hs s (List.mem_of_getElem? hsx)
    obtain ⟨b, off, rfl, _, hcell⟩ := (hr1.kp kpW (by simp)).at_ (by simp; omega)
    (repeat first|refine zC ?_|refine zg ?_|refine zo rfl rfl (by first|exact trivial|(simp only[AllP];omega)) ?_|refine zb ?_|refine zk ?_|refine zt rfl ?_)
    refine o_loadc rfl (hcell i (S s) (by rw [List.getElem?_map, hsx]; rfl)) rfl rfl rfl rfl ?_
    refine o_call (add_ret hTW s hsl) rfl rfl rfl ?_
    rintro v W3 ⟨rfl, fp3, m3, ad3, cap3, hT3, kp3, hf3⟩
    have k3 : Kp [] w1 W3 := kpW.since kp3 hfW
    have hfw3 : ∀ b, b ∈ fp3 → w1.heap.size ≤ b := fun b hb => by
      rcases hf3 b hb with h | h
      · exact hfW b h
      · exact Nat.le_trans kpW.size h
    (repeat first|refine zg ?_|refine zo rfl rfl (by first|exact trivial|(simp only[AllP];omega)) ?_|refine zn ?_)
    exact ⟨(i + 1, addL l s), rfl, ⟨by dsimp only; omega, by dsimp only; omega, by have := addL_len (l := l) (s := s); dsimp only; omega, addL_nodup hnd, k3, fp3, m3, ad3, cap3, hT3, hfw3⟩, by dsimp only; omega⟩
  | false =>
    clear hz1
    have hl60 : l.length ≤ 60 := by omega
    clear hi hi2 hal
    (repeat first|refine zA ?_|refine zg ?_|refine zo rfl rfl trivial ?_|refine ze rfl ?_|refine zf rfl ?_)
    refine o_call (nlen_ret hTW) rfl rfl rfl ?_
    rintro v W' ⟨rfl, rfl⟩
    (repeat first|refine zA ?_|refine zg ?_|refine zo rfl rfl trivial ?_|refine zn ?_)
    refine o_call (sorted_ret hTW.few (fun w' hk => namesAll_ret (hTW.kp hk (by simp))) ⟨_, rfl⟩ (.inr ⟨p, fpW, mW, adW, capW, rfl, hTW⟩)) rfl rfl rfl ?_
    rintro v W2 ⟨adS, capS, out, rfl, hnewS, hpermS, hsrtS⟩
    have hT2 := hTW.kp hnewS.kp (by simp)
    have k2 := kpW.trans hnewS.kp
    have hol : out.length = l.length := by rw [hpermS.length_eq, List.length_range]
    (repeat first|refine zA ?_|refine zB ?_|refine zg ?_|refine zo rfl rfl trivial ?_|refine zn ?_)
    refine r_ifn rfl (fun hc => ?_) (fun hc => ?_)
    · exact absurd (by rw [hol]) hc
    have hout : ∀ {j x : Nat}, out[j]? = some x → x < l.length := fun {j x} hx => List.mem_range.1 (hpermS.subset (List.mem_of_getElem? hx))
    have hname : ∀ {x : Nat}, x < l.length → nameV l (x : Int) = .tuple #[S (l.getD x []), .bool true] := fun {x} hx => by
      unfold nameV; rw [if_pos (by omega)]; rfl
    have hout_nd : out.Nodup := hpermS.nodup_iff.2 List.nodup_range
    (repeat first|refine zA ?_|refine zB ?_|refine zg ?_|refine zo rfl rfl trivial ?_|refine zn ?_|refine zb ?_|refine zk ?_)
    refine r_loop (α := Nat) [1, 4, 5, 6, 9, 10, 11] (fun j => [ptr b1, I most, .float .f64 least, ptr p, I l.length, .slice adS out.length capS, I j])
      (fun j W => W = W2 ∧ 1 ≤ j) (fun j => out.length - j) 1 rfl ⟨rfl, Nat.le_refl _⟩ ?_
    rintro j e2 W3 ⟨rfl, hj1⟩
    (repeat first|refine zA ?_|refine zB ?_|refine zg ?_|refine zo rfl rfl trivial ?_|refine zn ?_)
    refine r_if rfl (fun hjl => ?_) (fun hjl => ?_)
    · have hjl : j < out.length := by omega
      obtain ⟨x, hx⟩ : ∃ x, out[j - 1]? = some x := ⟨_, List.getElem?_eq_getElem (by omega)⟩
      obtain ⟨y, hy⟩ : ∃ y, out[j]? = some y := ⟨_, List.getElem?_eq_getElem hjl⟩
      have hxl := hout hx
      have hyl := hout hy
      have hlt : sl (l.getD x []) (l.getD y []) = true := by
        have h1 := (List.getElem?_eq_some_iff.1 hx)
        have h2 := (List.getElem?_eq_some_iff.1 hy)
        obtain ⟨p1, q1⟩ := h1
        obtain ⟨p2, q2⟩ := h2
        have hpw := List.pairwise_iff_getElem.1 hsrtS (j - 1) j p1 p2 (by omega)
        rw [q1, q2] at hpw
        have hxy : x ≠ y := by
          intro e
          have := List.pairwise_iff_getElem.1 hout_nd (j - 1) j p1 p2 (by omega)
          rw [q1, q2] at this
          exact this e
        have hne : l.getD x [] ≠ l.getD y [] := by
          intro e
          rw [List.getD_eq_getElem?_getD, List.getD_eq_getElem?_getD, List.getElem?_eq_getElem hxl, List.getElem?_eq_getElem hyl] at e
          exact hxy ((List.getElem_inj hnd).1 e)
        cases h : sl (l.getD x []) (l.getD y []) with
        | true => rfl
        | false => exact absurd (sl_tri h hpw) hne
      obtain ⟨b, off, rfl, _, hcell⟩ := hnewS.read.at_ (by simp; omega)
      (repeat first|refine zA ?_|refine zC ?_|refine zg ?_|refine zo rfl rfl (by first|exact trivial|(simp only[AllP];omega)) ?_|refine zb ?_|refine zk ?_)
      refine o_loadc (v := I (x : Nat)) rfl (by rw [show ((j : Int) - 1).toNat = j - 1 by omega]; exact hcell (j - 1) (I (x : Nat)) (by rw [List.getElem?_map, hx]; rfl)) rfl rfl rfl rfl ?_
      refine o_call (nname_ret hT2 _) rfl rfl rfl ?_
      rintro v W' ⟨rfl, rfl⟩
      rw [hname hxl]
      (repeat first|refine zA ?_|refine zg ?_|refine zo rfl rfl (by first|exact trivial|(simp only[AllP];omega)) ?_|refine zn ?_)
      refine o_loadc (v := I (y : Nat)) rfl (hcell j (I (y : Nat)) (by rw [List.getElem?_map, hy]; rfl)) rfl rfl rfl rfl ?_
      refine o_call (nname_ret hT2 _) rfl rfl rfl ?_
      rintro v W' ⟨rfl, rfl⟩
      rw [hname hyl]
      (repeat first|refine zA ?_|refine zg ?_|refine zo rfl rfl trivial ?_|refine zn ?_|refine zU rfl rfl rfl ?_)
      unfold sl at hlt
      rw [hlt]
      (repeat first|refine zg ?_|refine zo rfl rfl (by first|exact trivial|(simp only[AllP];omega)) ?_|refine zn ?_|refine zk ?_|refine zf rfl ?_)
      exact ⟨j + 1, rfl, ⟨rfl, by omega⟩, by omega⟩
    · (repeat first|refine zA ?_|refine zg ?_|refine zo rfl rfl trivial ?_|refine ze rfl ?_)
      refine o_load rfl (k2.blk (by simp) hB1) rfl rfl rfl rfl rfl ?_
      refine o_call (short_ret name) rfl rfl rfl ?_
      rintro v W' ⟨rfl, rfl⟩
      (repeat first|refine zA ?_|refine zg ?_|refine zo rfl rfl trivial ?_|refine zn ?_)
      refine o_call (near_ret (name := name.take 60) (most := most) hT2.few (fun w' hk => namesAll_ret (hT2.kp hk (by simp))) ⟨_, rfl⟩ hmost) rfl rfl rfl ?_
      rintro v W4 ⟨adN, capN, near, rfl, hnewN, hpermN, hsrtN⟩
      have hT4 := hT2.kp hnewN.kp (by simp)
      have k4 := k2.trans hnewN.kp
      (repeat first|refine zA ?_|refine zg ?_|refine zo rfl rfl trivial ?_|refine zn ?_)
      refine o_call (closest_ret (name := name.take 60) (least := least) hT4.few (fun w' hk => namesAll_ret (hT4.kp hk (by simp))) ⟨_, rfl⟩) rfl rfl rfl ?_
      rintro v W5 ⟨rfl, k45⟩
      have hT5 := hT4.kp k45 (by simp)
      have k5 := k4.trans k45
      have hclo := cloL_spec (name.take 60) least l
      generalize cloL (name.take 60) least (nums l) = c at hclo ⊢
      obtain ⟨best, found, mx⟩ := c
      generalize hsn : name.take 60 = s at hpermN hsrtN hclo ⊢
      dsimp only
      (repeat first|refine zA ?_|refine zB ?_|refine zg ?_|refine zo rfl rfl trivial ?_|refine zn ?_|refine zb ?_)
      refine r_loop (α := Nat) [4, 5, 6, 9, 16, 17, 18, 19, 20, 21] (fun i => [I most, .float .f64 least, ptr p, I l.length, S s, .slice adN near.length capN, I best, .bool found, I (cntN l s most i), I i])
        (fun i W => i ≤ l.length ∧ Kp [] W5 W) (fun i => l.length - i) 0 rfl ⟨by omega, Kp.refl _ _⟩ ?_
      rintro i e3 W6 ⟨hil, k56⟩
      have hT6 := hT5.kp k56 (by simp)
      have hcl := cntN_le l s most i
      (repeat first|refine zA ?_|refine zB ?_|refine zg ?_|refine zo rfl rfl trivial ?_|refine zn ?_)
      refine r_if rfl (fun hc => ?_) (fun hc => ?_)
      · have hc : i < l.length := by omega
        have hmem : (i, l.getD i []) ∈ nums l := List.mem_map.2 ⟨i, List.mem_range.2 hc, rfl⟩
        have hcs := cntN_succ l s most i
        (repeat first|refine zA ?_|refine zC ?_|refine zg ?_|refine zo rfl rfl trivial ?_|refine zb ?_|refine zk ?_)
        refine o_call (nname_ret hT6 _) rfl rfl rfl ?_
        rintro v W' ⟨rfl, rfl⟩
        rw [hname hc]
        (repeat first|refine zA ?_|refine zB ?_|refine zg ?_|refine zo rfl rfl trivial ?_|refine zn ?_|refine zk ?_|refine zf rfl ?_)
        refine o_call (distance_ret s _ _) rfl rfl rfl ?_
        rintro v W7 ⟨rfl, k67⟩
        have hT7 := hT6.kp k67 (by simp)
        (repeat first|refine zo rfl rfl trivial ?_|refine zn ?_)
        refine r_if rfl (fun hdm => ?_) (fun hdm => ?_)
        all_goals
          have hke : cntN l s most (i + 1) = cntN l s most i + (if (dist s (l.getD i []) : Int) ≤ most then 1 else 0) := hcs
          first
            | rw [if_pos hdm] at hke
            | rw [if_neg hdm] at hke
          (repeat first|refine zA ?_|refine zg ?_|refine zo rfl rfl (by first|exact trivial|(simp only[AllP];omega)) ?_|refine zn ?_|refine zk ?_)
          refine o_call (likeness_ret s (l.getD i []) _) rfl rfl rfl ?_
          rintro v W8 ⟨rfl, k78⟩
          have hT8 := hT7.kp k78 (by simp)
          have k58 := (k56.trans k67).trans k78
          (repeat first|refine zA ?_|refine zB ?_|refine zg ?_|refine zo rfl rfl trivial ?_|refine zn ?_)
          cases hge : fge (like s (l.getD i [])) least with
          | true =>
            have hge' := hge
            unfold fge at hge'
            rw [hge']
            cases found with
            | false =>
              have h0 := (hclo.none rfl).2 _ hmem
              rw [h0] at hge; cases hge
            | true =>
              obtain ⟨t, m1, _, m3, m4⟩ := hclo.some rfl
              obtain ⟨hbl, hbt⟩ := nums_mem m1
              dsimp only at hbl hbt m1
              obtain ⟨m5, m6⟩ := m4 _ hmem hge
              dsimp only at m5 m6
              (repeat first|refine zA ?_|refine zg ?_|refine zo rfl rfl trivial ?_|refine zn ?_|refine zk ?_|refine zT rfl rfl rfl ?_|refine zf rfl ?_|refine zt rfl ?_)
              refine o_call (nname_ret hT8 _) rfl rfl rfl ?_
              rintro v W' ⟨rfl, rfl⟩
              rw [hname hbl, hbt]
              (repeat first|refine zA ?_|refine zg ?_|refine zo rfl rfl trivial ?_|refine zn ?_)
              refine o_call (likeness_ret s t _) rfl rfl rfl ?_
              rintro v W9 ⟨rfl, k89⟩
              have m3' := m3
              unfold fge at m3'
              (repeat first|refine zA ?_|refine zg ?_|refine zo rfl rfl trivial ?_|refine zn ?_|refine zU rfl rfl rfl ?_)
              rw [m3']
              (repeat first|refine zo rfl rfl trivial ?_|refine zU rfl rfl rfl ?_)
              rw [hge']
              (repeat first|refine zo rfl rfl trivial ?_|refine zT rfl rfl rfl ?_)
              have m5' := m5
              unfold fgt at m5'
              rw [m5']
              (repeat first|refine zo rfl rfl trivial ?_|refine zU rfl rfl rfl ?_)
              cases heq : feq (like s (l.getD i [])) (like s t) with
              | true =>
                have heq' := heq
                unfold feq at heq'
                rw [heq']
                have hbi := m6 heq
                (repeat first|refine zo rfl rfl trivial ?_|refine zn ?_|refine zT rfl rfl rfl ?_)
                refine r_if rfl (fun hbad => ?_) (fun hbad => ?_)
                · exact absurd hbad (by omega)
                · (repeat first|refine zg ?_|refine zo rfl rfl (by first|exact trivial|(simp only[AllP];omega)) ?_|refine zn ?_|refine zk ?_)
                  exact ⟨i + 1, by rw [hke]; rfl, ⟨by omega, k58.trans k89⟩, by omega⟩
              | false =>
                have heq' := heq
                unfold feq at heq'
                rw [heq']
                (repeat first|refine zg ?_|refine zo rfl rfl (by first|exact trivial|(simp only[AllP];omega)) ?_|refine zn ?_|refine zk ?_|refine zU rfl rfl rfl ?_|refine zf rfl ?_)
                exact ⟨i + 1, by rw [hke]; rfl, ⟨by omega, k58.trans k89⟩, by omega⟩
          | false =>
            have hge' := hge
            unfold fge at hge'
            rw [hge']
            cases found with
            | false =>
              (repeat first|refine zA ?_|refine zg ?_|refine zo rfl rfl (by first|exact trivial|(simp only[AllP];omega)) ?_|refine zn ?_|refine zk ?_|refine zU rfl rfl rfl ?_|refine zf rfl ?_)
              exact ⟨i + 1, by rw [hke]; rfl, ⟨by omega, k58⟩, by omega⟩
            | true =>
              obtain ⟨t, m1, _, m3, m4⟩ := hclo.some rfl
              obtain ⟨hbl, hbt⟩ := nums_mem m1
              dsimp only at hbl hbt m1
              (repeat first|refine zA ?_|refine zg ?_|refine zo rfl rfl trivial ?_|refine zn ?_|refine zk ?_|refine zU rfl rfl rfl ?_|refine zf rfl ?_|refine zt rfl ?_)
              refine o_call (nname_ret hT8 _) rfl rfl rfl ?_
              rintro v W' ⟨rfl, rfl⟩
              rw [hname hbl, hbt]
              (repeat first|refine zA ?_|refine zg ?_|refine zo rfl rfl trivial ?_|refine zn ?_)
              refine o_call (likeness_ret s t _) rfl rfl rfl ?_
              rintro v W9 ⟨rfl, k89⟩
              have m3' := m3
              unfold fge at m3'
              (repeat first|refine zA ?_|refine zg ?_|refine zo rfl rfl trivial ?_|refine zn ?_|refine zU rfl rfl rfl ?_)
              rw [m3']
              (repeat first|refine zo rfl rfl trivial ?_|refine zU rfl rfl rfl ?_)
              rw [hge']
              (repeat first|refine zg ?_|refine zo rfl rfl (by first|exact trivial|(simp only[AllP];omega)) ?_|refine zn ?_|refine zk ?_|refine zU rfl rfl rfl ?_|refine zV rfl rfl rfl ?_|refine zf rfl ?_)
              exact ⟨i + 1, by rw [hke]; rfl, ⟨by omega, k58.trans k89⟩, by omega⟩
      · have hieq : i = l.length := by omega
        subst hieq
        have hnl : near.length = cntN l s most l.length := by rw [hpermN.length_eq, cntN_all]
        have hnear : ∀ {j x : Nat}, near[j]? = some x → x < l.length ∧ (dist s (l.getD x []) : Int) ≤ most := fun {j x} hx => nearOf_mem.1 (hpermN.subset (List.mem_of_getElem? hx))
        have hnl131 : near.length ≤ 60 := by omega
        have hfb : found = true ∨ (found = false ∧ best = 0) := by
          cases found with
          | true => exact .inl rfl
          | false => exact .inr ⟨rfl, (hclo.none rfl).1⟩
        (repeat first|refine zA ?_|refine zB ?_|refine zg ?_|refine zo rfl rfl trivial ?_|refine ze rfl ?_)
        refine o_is false _ _ rfl rfl rfl (by simp; omega) ?_
        rcases hfb with rfl | ⟨rfl, rfl⟩
        all_goals
          (repeat first|refine zA ?_|refine zB ?_|refine zg ?_|refine zo rfl rfl trivial ?_|refine zn ?_|refine zb ?_|refine zk ?_|refine zT rfl rfl rfl ?_|refine zU rfl rfl rfl ?_|refine zf rfl ?_)
          refine r_loop (α := Nat) [4, 6, 16, 17, 28] (fun j => [I most, ptr p, S s, .slice adN near.length capN, I j])
            (fun j W => Kp [] W5 W ∧ 1 ≤ j) (fun j => near.length - j) 1 rfl ⟨k56, Nat.le_refl _⟩ ?_
          rintro j e4 W7 ⟨k57, hj1⟩
          (repeat first|refine zA ?_|refine zB ?_|refine zg ?_|refine zo rfl rfl trivial ?_|refine zn ?_)
          refine r_if rfl (fun hjl => ?_) (fun hjl => ?_)
          · have hjl : j < near.length := by omega
            obtain ⟨x, hx⟩ : ∃ x, near[j - 1]? = some x := ⟨_, List.getElem?_eq_getElem (by omega)⟩
            obtain ⟨y, hy⟩ : ∃ y, near[j]? = some y := ⟨_, List.getElem?_eq_getElem hjl⟩
            obtain ⟨hxl, hxm⟩ := hnear hx
            obtain ⟨hyl, hym⟩ := hnear hy
            have hlt : LtK (nearD l s) x y := srt_get hsrtN (by omega) hx hy
            unfold LtK nearD at hlt
            have hnew7 := hnewN.own.kp (k45.trans k57) (by simp)
            have hT7 := hT5.kp k57 (by simp)
            obtain ⟨b, off, rfl, _, hcell⟩ := hnew7.read.at_ (by simp; omega)
            have cx : ∀ W', Kp [] W7 W' → W'.cell? ⟨b, off + ((j : Int) - 1).toNat, none⟩ = some (I (x : Nat)) := fun W' hk => by
              obtain ⟨b', off', he, _, hc⟩ := (hnew7.kp hk (by simp)).read.at_ (by simp; omega)
              cases he
              rw [show ((j : Int) - 1).toNat = j - 1 by omega]; exact hc (j - 1) (I (x : Nat)) (by rw [List.getElem?_map, hx]; rfl)
            have cy : ∀ W', Kp [] W7 W' → W'.cell? ⟨b, off + j, none⟩ = some (I (y : Nat)) := fun W' hk => by
              obtain ⟨b', off', he, _, hc⟩ := (hnew7.kp hk (by simp)).read.at_ (by simp; omega)
              cases he
              exact hc j (I (y : Nat)) (by rw [List.getElem?_map, hy]; rfl)
            (repeat first|refine zA ?_|refine zC ?_|refine zg ?_|refine zo rfl rfl (by first|exact trivial|(simp only[AllP];omega)) ?_|refine zb ?_|refine zk ?_)
            refine o_loadc (v := I (x : Nat)) rfl (cx _ (Kp.refl _ _)) rfl rfl rfl rfl ?_
            refine o_call (nname_ret hT7 _) rfl rfl rfl ?_
            rintro v W' ⟨rfl, rfl⟩
            rw [hname hxl]
            (repeat first|refine zA ?_|refine zg ?_|refine zo rfl rfl (by first|exact trivial|(simp only[AllP];omega)) ?_|refine zn ?_)
            refine o_loadc (v := I (y : Nat)) rfl (cy _ (Kp.refl _ _)) rfl rfl rfl rfl ?_
            refine o_call (nname_ret hT7 _) rfl rfl rfl ?_
            rintro v W' ⟨rfl, rfl⟩
            rw [hname hyl]
            (repeat first|refine zA ?_|refine zg ?_|refine zo rfl rfl trivial ?_|refine zn ?_)
            refine o_call (distance_ret s _ _) rfl rfl rfl ?_
            rintro v W8 ⟨rfl, k78⟩
            (repeat first|refine zA ?_|refine zg ?_|refine zo rfl rfl trivial ?_|refine zn ?_)
            refine o_call (distance_ret s _ _) rfl rfl rfl ?_
            rintro v W9 ⟨rfl, k89⟩
            have k79 := k78.trans k89
            have hdx := dist_le' s (l.getD x [])
            have hdy := dist_le' s (l.getD y [])
            generalize dist s (l.getD x []) = dx at hlt hxm hdx ⊢
            generalize dist s (l.getD y []) = dy at hlt hym hdy ⊢
            (repeat first|refine zo rfl rfl trivial ?_|refine zn ?_)
            refine r_seq ?_
            refine r_mix (fun W' => Kp [] W9 W') ((0, false) :: (1, false) :: (2, false) :: (3, false) :: (4, false) :: (5, false) :: (6, false) :: (7, false) :: (8, false) :: (9, false) :: (10, false) :: (11, false) :: (12, false) :: (13, false) :: (14, false) :: (15, false) :: (16, false) :: (17, false) :: (18, false) :: (19, false) :: (20, false) :: (21, false) :: (22, false) :: (23, false) :: (24, false) :: (25, false) :: (26, false) :: (27, false) :: (28, false) :: (29, false) :: (30, false) :: (31, false) :: (32, false) :: []) follows_mixed (by kernel_rfl) (by kernel_rfl) (by kernel_rfl) ((Sm.drew _).kp _) ?_
            have kd := (Sm.drew W9).kp []
            generalize ({ W9 with drawn := W9.drawn + 1 } : World) = wd at kd ⊢
            (repeat first|refine xo rfl rfl trivial ?_|refine x_know rfl _ _ (some false) rfl rfl rfl ?_)
            refine x_is false rfl 11 false rfl rfl rfl (by simp only [decide_eq_false_iff_not]; omega) ?_
            by_cases hdd : dx = dy
            · (repeat refine xo rfl rfl trivial ?_)
              refine x_is true rfl 15 true rfl rfl rfl (by simp only [decide_eq_true_eq]; omega) ?_
              (repeat refine xo rfl rfl (by first|exact trivial|(simp only[AllP];omega)) ?_)
              refine x_load (b := b) (off := off + ((j : Int) - 1).toNat) (v := I (x : Nat)) rfl rfl (fun W' h' => cx W' (k79.trans h')) rfl rfl rfl rfl ?_
              (repeat refine xo rfl rfl (by first|exact trivial|(simp only[AllP];omega)) ?_)
              refine x_load (b := b) (off := off + j) (v := I (y : Nat)) rfl rfl (fun W' h' => cy W' (k79.trans h')) rfl rfl rfl rfl ?_
              (repeat refine xo rfl rfl trivial ?_)
              refine x_is false rfl 28 false rfl rfl rfl (by simp only [decide_eq_false_iff_not]; omega) ?_
              (repeat first|refine xo rfl rfl trivial ?_|refine xn ?_)
              refine r_if rfl (fun hbad => ?_) (fun hbad => ?_)
              · exact absurd hbad (by omega)
              · (repeat first|refine zg ?_|refine zo rfl rfl (by first|exact trivial|(simp only[AllP];omega)) ?_|refine zn ?_|refine zk ?_)
                exact ⟨j + 1, rfl, ⟨(k57.trans k79).trans kd, by omega⟩, by omega⟩
            · (repeat refine xo rfl rfl trivial ?_)
              refine x_is false rfl 15 true rfl rfl rfl (by simp only [decide_eq_false_iff_not]; omega) ?_
              (repeat first|refine xo rfl rfl trivial ?_|refine xn ?_|refine x_know rfl _ _ (some false) rfl rfl rfl ?_)
              refine r_if rfl (fun hbad => ?_) (fun hbad => ?_)
              · exact absurd hbad (by omega)
              · (repeat first|refine zg ?_|refine zo rfl rfl (by first|exact trivial|(simp only[AllP];omega)) ?_|refine zn ?_|refine zk ?_)
                exact ⟨j + 1, rfl, ⟨(k57.trans k79).trans kd, by omega⟩, by omega⟩
          · (repeat first|refine zA ?_|refine zg ?_|refine zo rfl rfl trivial ?_|refine ze rfl ?_)
            have k17 : Kp [] w1 W7 := k5.trans k57
            by_cases hn0 : near.length = 0
            · refine o_is true _ _ rfl rfl rfl (by simp only [decide_eq_true_eq]; omega) ?_
              (repeat first|refine zo rfl rfl trivial ?_|refine zn ?_|refine zr ?_)
              exact ⟨_, rfl, rfl, kp01.trans k17⟩
            · obtain ⟨x, hx⟩ : ∃ x, near[0]? = some x := ⟨_, List.getElem?_eq_getElem (by omega)⟩
              obtain ⟨b, off, rfl, _, hcell⟩ := (hnewN.own.kp (k45.trans k57) (by simp)).read.at_ (by simp; omega)
              refine o_is false _ _ rfl rfl rfl (by simp only [decide_eq_false_iff_not]; omega) ?_
              (repeat refine zo rfl rfl (by first|exact trivial|(simp only[AllP];omega)) ?_)
              refine o_loadc (v := I (x : Nat)) rfl (hcell 0 (I (x : Nat)) (by rw [List.getElem?_map, hx]; rfl)) rfl rfl rfl rfl ?_
              (repeat first|refine zo rfl rfl trivial ?_|refine zn ?_|refine zr ?_)
              exact ⟨_, rfl, by simp, kp01.trans k17⟩
end Go.Vc
