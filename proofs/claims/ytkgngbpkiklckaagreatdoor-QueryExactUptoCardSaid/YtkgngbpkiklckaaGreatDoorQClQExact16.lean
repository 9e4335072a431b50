/- Parts of a proof. -/
import Derived.Lib.ItoaNum
import Derived.Test.YtkgngbpkiklckaaGreatDoorQClQExact15
set_option maxHeartbeats 12800000
namespace Go.Vc
open Go
def brk (t : QT) (s : List UInt8) : List UInt8 := if Jm0 t.op.toNat = true ∨ Jc7 t.op.toNat = 0 then s else 40 :: (s ++ [41])
def Jc8 : QT → List UInt8
 | .n0 op num name => if op = 1 then Lib.decDigits num.toNat else if op = 2 then name else Ja3 op.toNat
 | .n1 op _ name a =>
  if Jm0 op.toNat then Ja3 op.toNat ++ [40] ++ Jc8 a ++ [41]
  else if Jb6 op.toNat then Ja3 op.toNat ++ [32] ++ name ++ [58, 32] ++ Jc8 a
  else Ja3 op.toNat ++ (if op = 17 then [32] else []) ++ brk a (Jc8 a)
 | .n2 op _ _ a b =>
  if Jm0 op.toNat then Ja3 op.toNat ++ [40] ++ Jc8 a ++ [44, 32] ++ Jc8 b ++ [41]
  else brk a (Jc8 a) ++ [32] ++ Ja3 op.toNat ++ [32] ++ brk b (Jc8 b)
def Qk9 (l : List QN) : Except Int (List UInt8) :=
 match Jh1 l with
 | none => .error 305
 | some t => if 4096 < l.length then .error 3 else if 4096 < (Jc8 t).length then .error 3 else .ok (Jc8 t)
end Go.Vc

namespace Go.Vc
open Go
structure T0 where
 text : List UInt8
 num : Int
 deriving DecidableEq
def TS.strip : TS → Option (List T0)
 | .stop _ => some []
 | .bad _ => none
 | .tok t r => r.strip.map (⟨t.text, t.num⟩ :: ·)
def tk (l : List UInt8) : Option (List T0) := (lexF (l.length + 1) 0 l).strip
def stopB : List UInt8 → Bool
 | [] => true
 | c :: _ => !Jb0 c && !Jb3 c && !decide (c = 61)
end Go.Vc

namespace Go.Vc
open Go
def Jd2 : QT → Prop
 | .n0 op num name => (op = 1 ∧ 0 ≤ num ∧ num ≤ 9223372036854775807 ∧ name = []) ∨ (op = 2 ∧ num = 0 ∧ Jc5 name = true) ∨ (op = 3 ∧ num = 0 ∧ name = [])
 | .n1 op num name a => num = 0 ∧ Jd2 a ∧ ((op = 4 ∨ op = 8 ∨ op = 9 ∨ op = 10 ∨ op = 17) ∧ name = [] ∨ (op = 22 ∨ op = 23 ∨ op = 24 ∨ op = 25 ∨ op = 26) ∧ Jc5 name = true)
 | .n2 op num name a b => num = 0 ∧ Jd2 a ∧ Jd2 b ∧ name = [] ∧ (op = 5 ∨ op = 6 ∨ op = 7 ∨ op = 11 ∨ op = 12 ∨ op = 13 ∨ op = 14 ∨ op = 15 ∨ op = 16 ∨ op = 18 ∨ op = 19 ∨ op = 20 ∨ op = 21)
def wT (s : List UInt8) : T0 := ⟨s, -1⟩
structure Wide (φ : UInt8 → List UInt8) : Prop where
 other : ∀ c, c ≠ 32 → c ≠ 40 → c ≠ 41 → φ c = [c]
 blank : ∀ b, tk (φ 32 ++ b) = tk b
 lp : ∀ b, tk (φ 40 ++ b) = (tk b).map (wT [40] :: ·)
 rp : ∀ b, tk (φ 41 ++ b) = (tk b).map (wT [41] :: ·)
 sblank : ∀ b, stopB (φ 32 ++ b) = true
 slp : ∀ b, stopB (φ 40 ++ b) = true
 srp : ∀ b, stopB (φ 41 ++ b) = true
theorem Qk6 {u : Nat} (h : ¬ u < 10) : Lib.decDigits u = Lib.decDigits (u / 10) ++ [UInt8.ofNat (48 + u % 10)] := by rw [Lib.decDigits, dif_neg h]
section
variable {φ : UInt8 → List UInt8} (hφ : Wide φ)
include hφ
end
end Go.Vc

namespace Go.Vc
open Go
section
variable {P : Program} {n : Nat} {a : Act} {e : Env} {w : World} {K : Jc0} {all : List Oper} {G : List Nat} {ro : Ro} {dst : Option Tmp} {ty : TypeId} {pos : String} {after : Array Edge} {g : Option (Nat × Bool)} {l : List Oper} {t : TypeId} {x y : Operand}
theorem Jg7 {T : TypeId} {td : TypeDesc} {tn : String} {size tby : Nat} {thp : Bool} {tal tfa : Nat} {z : Value} {tcm : Bool} {tms : Array Method}
  {ad ay : Option Addr} {k cap m cy : Nat} {xs : List Value} (news : List Value)
  (hx : ev e x = .slice ad k cap) (hy : ev e y = .slice ay m cy) (ho : OwnS w T size ad k cap xs) (hn : Ja7 w ay news)
  (hu : P.underlying t = some (.slice T)) (hi : P.info? T = some ⟨td, tn, size, tby, thp, tal, tfa, some z, tcm, tms⟩) (hzs : z.cells.size = size) (hsz : 0 < size)
  (hl : news.length = m * size) (h1 : ∀ v ∈ news, v.oneCell' = true) (h63 : k + m ≤ maxLen) (hby : (k + m) * tby ≤ 140737488355328) (hd : dOk n dst = true) (hm : may all G e g = some true)
  (kk : ∀ ad' cap' w', OwnS w' T size ad' (k + m) cap' (xs ++ news) → Kp (Ja1 ad) w w' → (∀ b, b ∈ Ja1 ad' → b ∈ Ja1 ad ∨ w.heap.size ≤ b) → Ops ro P n all G K l (put e dst (.slice ad' (k + m) cap')) w') :
  Ops ro P n all G K (⟨dst, .call ⟨.builtin .append, #[x, y], #[t, t]⟩, ty, pos, after, g⟩ :: l) e w := by
 by_cases h0 : m = 0
 ·subst h0
  have hxs : news = [] := List.eq_nil_of_length_eq_zero oM
  subst hxs
  exact Qf5 hx hy ho.le_cap hu hi hd hm (kk ad cap w (by rw [List.append_nil]; exact ho) (Kp.refl _ _) (fun b hb => .inl hb))
 ·have hpos : 0 < news.length := by rw [hl]; exact Nat.mul_pos oM hsz
  obtain ⟨b, off, rfl, _, _⟩ := hn.at_ hpos
  exact Jo0 news hx hy ho (fun j v hv => hn j v hv) hu hi hzs hsz hl oM h1 h63 hby hd hm kk
end
end Go.Vc

namespace Go.Vc
open Go Go.Proofs
set_option maxRecDepth 20000
section
variable {w : World}
abbrev qV (ad : Option Addr) (n cap : Nat) : Value := .agg ⟨[.slice ad n cap]⟩
theorem Qe6 {l : List QN} {ad : Option Addr} {cap : Nat} (hA : AscW w) (hR : Ja7 w ad (l.flatMap qC)) (hc : l.length ≤ cap) (hm : cap ≤ 9223372036854775807) (hnm : ∀ x ∈ l, x.name.length ≤ 9223372036854775806) :
  Ret Tryz.prog 36 [qV ad l.length cap] w (fun v w' => (match Jh1 l with | none => v = .pointer none | some t => ∃ p, v = ptr p ∧ Jc3 shQ w.heap.size w' t p) ∧ Kp [] w w') := by
 have hw : Jh1 l = match Jg5 66 0 l with | some (t, []) => some t | _ => none := rfl
 refine Ze Tryz.call36 Tryz.func36 ?_
 refine zS ?_
 refine Zx ?_
 intro b w1 hb hu1
 have k1 : Kp [] w w1 := hu1.new oM
 have y1 := k1.size
 refine zS ?_
 refine Zl (v := .slice ad l.length cap) rfl hu1.blk ?_
 refine zS ?_
 refine Zc (grow_ret 66 0 rfl (hA.kp k1 sI) (hR.kp k1 sI) hc hm hnm) ?_
 rintro v w2 ⟨hv, k2⟩
 cases hg : Jg5 66 0 l with
 | none =>
  rw [hg] at hv hw
  have hv : v = .tuple #[.pointer none, .slice none 0 0] := hv
  subst hv
  rw [hw]
  refine zS ?_
  exact ⟨_, rfl, rfl, k1.trans k2⟩
 | some y =>
  obtain ⟨t, r⟩ := y
  rw [hg] at hv hw
  obtain ⟨p, ad', cap', rfl, hT, _, _, _, _⟩ := hv
  cases r with
  | nil =>
   rw [hw]
   refine zS ?_
   exact ⟨_, rfl, ⟨p, rfl, hT.lo_le y1⟩, k1.trans k2⟩
  | cons x r =>
   rw [hw]
   refine zS ?_
   refine Jf7 rfl (decide_eq_true sI) ?_
   refine zS ?_
   exact ⟨_, rfl, rfl, k1.trans k2⟩
theorem IndexTree_ret {ad : Option Addr} {cap : Nat} {ks : List (Nat × QT)} {f : FuncId} {cs : List Value} {b : Nat × QT → Bool} (hR : Ja7 w ad (ks.map fun x => ptr x.1)) (hl : ks.length ≤ 2) (hf : ∀ x ∈ ks, ∀ W, Kp [] w W → Ret Tryz.prog f (ptr x.1 :: cs) W (fun v w' => v = .bool (b x) ∧ Kp [] w w')) :
  Ret Tryz.prog 158 [.slice ad ks.length cap, .func (.func f) #[] ⟨cs⟩] w (fun v w' => (∃ z : Int, v = I z ∧ decide (0 ≤ z) = ks.any b) ∧ Kp [] w w') := by
 refine Ze Tryz.call158 Tryz.func158 ?_
 refine zS ?_
 refine Jb4 (α := Nat) [0, 1, 7, 8] (fun i => [.slice ad ks.length cap, .func (.func f) #[] ⟨cs⟩, I ks.length, I i]) (fun i W => i ≤ ks.length ∧ Kp [] w W ∧ (ks.take i).any b = false) (fun i => ks.length - i) 0 rfl ⟨Nat.zero_le _, Kp.refl _ _, rfl⟩ ?_
 rintro i e W ⟨hi, kW, hn⟩
 refine zS ?_
 refine r_if rfl (fun hc => ?_) (fun hc => ?_)
 ·have hi2 : i < ks.length := oM
  obtain ⟨x, hx⟩ : ∃ x, ks[i]? = some x := ⟨_, List.getElem?_eq_getElem hi2⟩
  obtain ⟨b0, off, rfl, _, hcell⟩ := (hR.kp kW sI).at_ (by simp; omega)
  have ht1 : ks.take (i + 1) = ks.take i ++ [x] := by rw [List.take_add_one, hx]; rfl
  refine zS ?_
  refine Zo (v := ptr x.1) rfl (by rw [Ja2]; exact hcell i _ (by rw [List.getElem?_map, hx]; rfl)) ?_
  refine Jq3 (first := #[]) (cap := ⟨cs⟩) (hf x (List.mem_of_getElem? hx) W kW) rfl rfl rfl rfl ?_
  rintro v w2 ⟨rfl, k2⟩
  refine zS ?_
  refine Je1 rfl (fun h => ?_) (fun h => ?_)
  ·refine zS ?_
   refine ⟨_, rfl, ⟨i, rfl, ?_⟩, k2⟩
   rw [decide_eq_true oM]
   symm
   rw [List.any_eq_true]
   exact ⟨x, List.mem_of_getElem? hx, h⟩
  ·refine zS ?_
   exact ⟨i + 1, rfl, ⟨oM, k2, by rw [ht1, List.any_append, hn]; simp [h]⟩, oM⟩
 ·have : i = ks.length := oM
  subst this
  rw [List.take_length] at hn
  refine zS ?_
  exact ⟨_, rfl, ⟨-1, rfl, by rw [hn]; rfl⟩, kW⟩
theorem Jr0 {ad : Option Addr} {cap : Nat} {ks : List (Nat × QT)} {f : FuncId} {cs : List Value} {b : Nat × QT → Bool} (hR : Ja7 w ad (ks.map fun x => ptr x.1)) (hl : ks.length ≤ 2) (hf : ∀ x ∈ ks, ∀ W, Kp [] w W → Ret Tryz.prog f (ptr x.1 :: cs) W (fun v w' => v = .bool (b x) ∧ Kp [] w w')) :
  Ret Tryz.prog 125 [.slice ad ks.length cap, .func (.func f) #[] ⟨cs⟩] w (fun v w' => v = .bool (ks.any b) ∧ Kp [] w w') := by
 refine Ze Tryz.call125 Tryz.func125 ?_
 refine zS ?_
 refine Zc (IndexTree_ret hR hl hf) ?_
 rintro v w1 ⟨⟨z, rfl, hz⟩, k1⟩
 refine zS ?_
 exact ⟨_, rfl, by rw [← hz], k1⟩
theorem Qn0 {ad : Option Addr} {l : List (List UInt8)} {cap : Nat} (h : Ja7 w ad (l.map S)) (hl : l.length ≤ 1048576) :
  Ret Tryz.prog 124 [.slice ad l.length cap] w (fun v w' => ∃ ad' cap', v = .slice ad' l.length cap' ∧ OwnS w' 9 1 ad' l.length cap' (l.map S) ∧ Kp [] w w' ∧ ∀ b, b ∈ Ja1 ad' → w.heap.size ≤ b) := by
 refine Ze Tryz.call124 Tryz.func124 ?_
 refine zS ?_
 cases ad with
 | none =>
  have h0 : l.map S = [] := by simpa [Ja7] using h
  have hl0 : l = [] := by simpa using h0
  subst hl0
  refine zS ?_
  exact ⟨_, rfl, none, 0, rfl, Jd6 _ _ _, Kp.refl _ _, by simp [Ja1]⟩
 | some a =>
  refine zS ?_
  refine Jf0 rfl rfl rfl rfl ?_
  intro b w1 hb hu1
  have k1 : Kp [] w w1 := hu1.new oM
  have ho1 : OwnS w1 9 1 (some ⟨b, 0, none⟩) 0 0 [] := ⟨rfl, rfl, rfl, lR, by simp [maxLen], [], hu1.blk, rfl⟩
  refine zS ?_
  refine Jg7 (k := 0) (l.map S) rfl rfl ho1 (h.kp k1 sI) rfl rfl rfl dE sI (fun v hv => by obtain ⟨x, _, rfl⟩ := List.mem_map.1 hv; rfl) (by simp only [maxLen]; omega) oM rfl rfl ?_
  intro ad' cap' w2 ho2 k2 hn2
  refine zS ?_
  rw [Nat.zero_add] at ho2 ⊢
  have hnew : ∀ b, b ∈ Ja1 ad' → w.heap.size ≤ b := fun c hc => by
   have := k1.size
   rcases hn2 c hc with h | h
   ·simp [Ja1] at h; omega
   ·omega
  exact ⟨_, rfl, ad', cap', rfl, ho2, k1.since k2 (by simp [Ja1]; omega), hnew⟩
theorem named_ret : ∀ (t : QT), Jd2 t → ∀ {w : World} {lo p : Nat} {nad : Option Addr} {ncap : Nat} (names : List (List UInt8)), Jc3 shQ lo w t p → Ja7 w nad (names.map S) → names.length + t.depth ≤ 1000000 →
  Ret Tryz.prog 83 [ptr p, .slice nad names.length ncap] w (fun v w' => v = .bool (Jd9 t names) ∧ Kp [] w w') := by
 intro t
 induction t using QT.ind with
 | h t ih =>
 intro hg w lo p nad ncap names hT hN hlen
 obtain ⟨bad, bcap, ks, hks, hB, hR, hK, _⟩ := hT.view
 have hkg : ∀ k ∈ t.kids, Jd2 k := by
  intro k hk
  cases t with
  | n0 => simp [QT.kids] at hk
  | n1 op num name a => simp [QT.kids] at hk; subst hk; exact hg.2.1
  | n2 op num name a b => simp [QT.kids] at hk; rcases hk with rfl | rfl; exact hg.2.1; exact hg.2.2.1
 have hop : ∃ k : Nat, t.op = k ∧ 1 ≤ k ∧ k ≤ 26 := by
  cases t with
  | n0 op num name => rcases hg with ⟨rfl, _⟩ | ⟨rfl, _⟩ | ⟨rfl, _⟩; exact ⟨1, rfl, oM⟩; exact ⟨2, rfl, oM⟩; exact ⟨3, rfl, oM⟩
  | n1 op num name a =>
   obtain ⟨_, _, ⟨h, _⟩ | ⟨h, _⟩⟩ := hg
   ·exact ⟨op.toNat, by show op = _; omega, by show 1 ≤ op.toNat; omega, by show op.toNat ≤ 26; omega⟩
   ·exact ⟨op.toNat, by show op = _; omega, by show 1 ≤ op.toNat; omega, by show op.toNat ≤ 26; omega⟩
  | n2 op num name a b =>
   obtain ⟨_, _, _, _, h⟩ := hg
   exact ⟨op.toNat, by show op = _; omega, by show 1 ≤ op.toNat; omega, by show op.toNat ≤ 26; omega⟩
 obtain ⟨k, hk, hk1, hk2⟩ := hop
 have hmean : Jd9 t names = if t.op = 2 then names.contains t.name else !(ks.any fun x => !Jd9 x.2 (if Jb6 k then names ++ [t.name] else names)) := by
  have e1 : (ks.any fun x => !Jd9 x.2 (if Jb6 k then names ++ [t.name] else names)) = (t.kids.any fun x => !Jd9 x (if Jb6 k then names ++ [t.name] else names)) := by
   rw [← hks, List.any_map]; rfl
  rw [e1]
  have hb : Jb6 k = decide (22 ≤ t.op) := by
   rw [hk]; unfold Jb6; rw [decide_eq_true hk2, Bool.and_true, decide_eq_decide]; omega
  rw [hb]
  cases t with
  | n0 op num name => rw [Jd9]; rfl
  | n1 op num name a =>
   have h2 : op ≠ 2 := by obtain ⟨_, _, ⟨h, _⟩ | ⟨h, _⟩⟩ := hg <;> omega
   show Jd9 a _ = (if op = 2 then _ else _)
   rw [if_neg h2]
   show _ = !((!Jd9 a (if decide (22 ≤ op) = true then _ else _)) || false)
   simp
   rfl
  | n2 op num name a b =>
   obtain ⟨_, _, _, _, h⟩ := hg
   have h2 : op ≠ 2 := oM
   have h22 : ¬ 22 ≤ op := oM
   show (Jd9 a names && Jd9 b names) = (if op = 2 then _ else _)
   rw [if_neg h2]
   show _ = !((!Jd9 a (if decide (22 ≤ op) = true then _ else _)) || ((!Jd9 b (if decide (22 ≤ op) = true then _ else _)) || false))
   simp [h22]
 have hkl : ks.length ≤ 2 := by rw [← List.length_map (f := fun x : Nat × QT => x.2), hks]; exact t.kids_len
 have hpl := hB.lt
 rw [hk] at hB
 refine Ze Tryz.call83 Tryz.func83 ?_
 refine zS ?_
 refine Zx ?_
 intro b w1 hb hu1
 have k1 : Kp [] w w1 := hu1.new oM
 have hB1 := k1.b0 hB
 have hb1 : Blk w1 b [.slice nad names.length ncap] 159 := hu1.blk
 have y1 := k1.size
 have l1 := hb1.lt
 refine zL hB1 ?_
 refine r_if rfl (fun h2 => ?_) (fun h2 => ?_)
 ·rw [hmean, if_pos oM]
  refine zS ?_
  refine Ja9 ?_
  refine Jd8 (α := Unit) [4] (fun _ => [.bool (names.contains t.name)]) (fun _ W => Kp [] w W) ?_ ?_
  ·refine Jc9 Ja0 kR ?_
   refine Zq rfl (fun _ hs => (Kp.blk hs sI hb1).cell rfl) ?_
   refine zN hB1 ?_
   refine Zk (.bool (names.contains t.name)) (fun w' hw => (Jr9 ((hN.kp k1 sI).kp hw sI) oM t.name).mono (fun v w'' ⟨h1, h2⟩ => ⟨h1, h2 ▸ hw⟩)) Tryz.call105 ?_
   refine zN hB1 ?_
   intro w' hs
   exact ⟨(), rfl, k1.trans hs⟩
  rintro _ e w2 k2
  refine zS ?_
  exact ⟨_, rfl, rfl, k2⟩
 rw [hmean, if_neg oM]
 refine zS ?_
 refine Zl (v := .bool (Jb6 k)) rfl hB1 ?_
 refine zS ?_
 refine Jd8 (α := Option Addr × Nat) [0, 3] (fun _ => [ptr p, ptr b]) (fun y W => Blk W b [.slice y.1 (if Jb6 k then names ++ [t.name] else names).length y.2] 159 ∧ Ja7 W y.1 ((if Jb6 k then names ++ [t.name] else names).map S) ∧ Kp [] w W) ?_ ?_
 ·refine Je1 rfl (fun hbi => ?_) (fun hbi => ?_)
  ·rw [if_pos hbi]
   refine Qj6 (fun w' => Kp [] w1 w') 10 Ja0 kR ?_
   have kk := (Sm.drew w1).kp []
   generalize ({ w1 with drawn := w1.drawn + 1 } : World) = wd at kk ⊢
   have zd := kk.size
   refine Ji9 [0, 2, 3, 4, 5, 6] 4 kR kR kR kk ?_
   try dsimp only [List.map_cons, List.map_nil]
   refine Zy rfl rfl (fun w' h' => (h'.b0 hb1).cell rfl) ?_
   refine zX ?_
   refine Zy (v := S t.name) rfl rfl (fun w' h' => (h'.b0 hB1).cell rfl) ?_
   refine zX ?_
   refine t_with (fun e w' => ∃ (lad : Option Addr) (lcap bm : Nat), [0, 3, 24, 30].map e = [ptr p, ptr b, .slice lad names.length lcap, .slice (some ⟨bm, 0, none⟩) 1 1] ∧ Kp [] wd w' ∧ OwnS w' 9 1 lad names.length lcap (names.map S) ∧ Blk w' bm [S t.name] 9 ∧ ∀ c, c ∈ Ja1 lad → w1.heap.size ≤ c) 2 [0, 2, 3, 4, 5, 6, 1, 7] ?_ (fun hleaf => ?_)
   ·rintro e wz ⟨lad, lcap, bm, he', kz, ho, hBm, hln⟩
    rw [← Jq9 he']
    have zz := kz.size
    refine Je4 8 kR rfl ?_
    refine Jh3 rfl rfl ho hBm rfl rfl rfl rfl (by simp only [maxLen]; omega) oM rfl rfl ?_
    intro xad xcap w8 ho8 k8 hn8
    have hx8 : ∀ c, c ∈ Ja1 xad → w1.heap.size ≤ c := fun c hc => by
     rcases hn8 c hc with q | q
     ·exact hln c q
     ·omega
    have q18 : Kp [] w1 w8 := (kk.trans kz).since k8 hln
    refine Ja6 ⟨.inr q18, ?_⟩
    refine Je4 9 kR rfl ?_
    refine Zt (b := b) (v := .slice xad (names.length + 1) xcap) rfl (q18.b0 hb1) sI ?_
    intro w9 hu9
    refine Ja6 ⟨.inl kR, Qi6 kR ?_⟩
    have e1 : (names ++ [t.name]).length = names.length + 1 := sI
    refine ⟨(xad, xcap), rfl, by rw [e1]; exact hu9.blk, ?_, (k1.trans q18).since (hu9.kp [b] (.inl sI)) (by simp; omega)⟩
    rw [List.map_append]
    exact (ho8.upd hu9 (fun hb => by have := hx8 _ hb; omega)).read
   refine Jz9 1 7 kR rfl rfl ?_ ?_
   ·refine Zc (Qn0 ((hN.kp k1 sI).kp kk sI) oM) ?_
    rintro v w4 ⟨lad, lcap, rfl, ho4, k4, hn4⟩
    refine Ja6 ⟨.inr (kk.trans k4), ?_⟩
    refine Je4 7 kR rfl ?_
    refine Zu [S t.name] rfl (by simp [Value.oneCell']) rfl dE dE ?_
    intro bm w5 hbm hu5
    have k5 : Kp [] w4 w5 := hu5.new oM
    refine Ja6 ⟨.inr (kk.trans (k4.trans k5)), ?_⟩
    exact Jh7 kR (hleaf _ _ ⟨lad, lcap, bm, rfl, k4.trans k5, ho4.kp k5 sI, hu5.blk, fun c hc => by have := hn4 c hc; omega⟩)
   ·refine Zu [S t.name] rfl (by simp [Value.oneCell']) rfl dE dE ?_
    intro bm w5 hbm hu5
    have k5 : Kp [] wd w5 := hu5.new oM
    refine Ja6 ⟨.inr (kk.trans k5), ?_⟩
    refine Je4 1 kR rfl ?_
    refine Zc (Qn0 (((hN.kp k1 sI).kp kk sI).kp k5 sI) oM) ?_
    rintro v w4 ⟨lad, lcap, rfl, ho4, k4, hn4⟩
    have zk5 := k5.size
    refine Ja6 ⟨.inr (kk.trans (k5.trans k4)), ?_⟩
    exact Jh7 kR (hleaf _ _ ⟨lad, lcap, bm, rfl, k5.trans k4, ho4, k4.b0 hu5.blk, fun c hc => by have := hn4 c hc; omega⟩)
  ·rw [if_neg (by rw [hbi]; simp)]
   refine zS ?_
   exact ⟨(nad, ncap), rfl, hb1, hN.kp k1 sI, k1⟩
 generalize hnn : (if Jb6 k then names ++ [t.name] else names) = names'
 have hnl : names'.length ≤ names.length + 1 := by
  rw [← hnn]; split <;> simp
 rintro ⟨nad', ncap'⟩ e w2 ⟨hb2, hN2, k2⟩
 dsimp only at hb2 hN2
 have hB2 := k2.b0 hB
 have hR2 := hR.kp k2 sI
 refine zS ?_
 refine Zl (v := .slice bad ks.length bcap) rfl hB2 ?_
 refine zS ?_
 refine Zc (Jr0 (f := 126) (cs := [ptr b]) (b := fun x => !Jd9 x.2 names') hR2 hkl (fun x hx W kW => ?_)) ?_
 ·have hxk : x.2 ∈ t.kids := by rw [← hks]; exact List.mem_map_of_mem hx
  have hdl := t.depth_lt hxk
  refine Ze Tryz.call126 Tryz.func126 ?_
  refine zS ?_
  refine Zl rfl (kW.b0 hb2) ?_
  refine Zc (ih x.2 hxk (hkg _ hxk) names' ((hK x hx).kp (k2.trans kW) sI) (hN2.kp kW sI) oM) ?_
  rintro v w3 ⟨rfl, k3⟩
  refine zS ?_
  exact ⟨_, rfl, rfl, kW.trans k3⟩
 rintro v w3 ⟨rfl, k3⟩
 refine zS ?_
 exact ⟨_, rfl, rfl, k2.trans k3⟩
end
end Go.Vc
namespace Go.Vc
open Go
def noOp (s : TS) (lvl : Nat) : Prop := (lvl ≤ 4 → Jj6 4 s = none) ∧ (lvl ≤ 3 → Jj6 3 s = none) ∧ (lvl ≤ 2 → Jk1 s = none) ∧ (lvl ≤ 1 → Jj6 1 s = none) ∧ (lvl = 0 → Jj6 0 s = none)
theorem rd2 (n : Nat) (s : TS) : rd (n + 1) 2 s = if s.is (Ja3 17) then (adv s >>= fun s => rd n 2 s >>= fun x => .ok (.n1 17 0 [] x.1, x.2)) else (rd n 3 s >>= fun x => match Jk1 x.2 with
  | some op => adv x.2 >>= fun s => rd n 3 s >>= fun y => .ok (.n2 op 0 [] x.1 y.1, y.2)
  | none => .ok x) := by
 rw [rd]
 split
 ·rfl
 ·congr 1
theorem rd5 (n : Nat) {t : Tok} {r : TS} : rd (n + 1) 5 (.tok t r) = if 0 ≤ t.num then (adv (.tok t r) >>= fun s => .ok (.n0 1 t.num [], s))
  else if (TS.tok t r).is (Ja3 4) then (adv (.tok t r) >>= fun s => rd n 5 s >>= fun x => .ok (.n1 4 0 [] x.1, x.2))
  else if (TS.tok t r).is [40] then (adv (.tok t r) >>= fun s => rd n 0 s >>= fun x => Jc4 x.2 [41] >>= fun s => .ok (x.1, s))
  else match Jr4 t.text with
   | some k => adv (.tok t r) >>= fun s => .ok (.n0 1 k [], s)
   | none => if opOf t.text ≠ 0 then wd n (opOf t.text) (.tok t r) else if Jc5 t.text then (adv (.tok t r) >>= fun s => .ok (.n0 2 0 t.text, s)) else .error (301, t.at_) := by
 rw [rd] <;> first | rfl | (intro h; cases h)
end Go.Vc

namespace Go.Vc
open Go
theorem noOp.mono {s : TS} {a b : Nat} (h : noOp s a) (hab : a ≤ b) : noOp s b :=
 ⟨fun h1 => h.1 oM, fun h1 => h.2.1 oM, fun h1 => h.2.2.1 oM, fun h1 => h.2.2.2.1 oM, fun h1 => h.2.2.2.2 oM⟩
end Go.Vc

namespace Go.Vc
open Go
def Jw4 : TS → Prop
 | .tok t r => t.num ≤ 9223372036854775807 ∧ Jw4 r
 | _ => True
theorem numAcc_le : ∀ (l : List UInt8) (n u : Nat), (l.all Jb3 = true) → n ≤ 9223372036854775807 → Ji3 n l = some u → u ≤ 9223372036854775807
 | [], n, u, _, h, e => by simp [Ji3] at e; omega
 | c :: l, n, u, ha, h, e => by
  simp only [List.all_cons, Bool.and_eq_true] at ha
  have hc : 48 ≤ c.toNat ∧ c.toNat ≤ 57 := by
   have := ha.1
   unfold Jb3 at this
   simp only [Bool.and_eq_true, decide_eq_true_eq, UInt8.le_iff_toNat_le] at this
   simpa using this
  rw [Ji3] at e
  split at e
  ·exact numAcc_le l _ u ha.2 oM e
  ·cases e
theorem all_tw {f : UInt8 → Bool} : ∀ {l : List UInt8}, (l.takeWhile f).all f = true
 | [] => rfl
 | c :: l => by
  rw [List.takeWhile_cons]
  cases hc : f c with
  | false => rfl
  | true => simp only [if_true, List.all_cons, hc, Bool.true_and]; exact all_tw
theorem tok1_num {i : Nat} {l : List UInt8} {t : Tok} (h : tok1 i l = some t) : t.num ≤ 9223372036854775807 := by
 cases l with
 | nil => simp [tok1] at h; subst h; show (-1 : Int) ≤ _; decide
 | cons c r =>
  simp only [tok1] at h
  split at h
  ·cases h; show (-1 : Int) ≤ _; decide
  ·split at h
   ·rename_i hd
    simp only [Option.map_eq_some_iff] at h
    obtain ⟨n, h1, rfl⟩ := h
    have := numAcc_le (c :: r.takeWhile Jb3) 0 n (by
     rw [List.all_cons, hd, Bool.true_and]; exact all_tw) oM h1
    show (n : Int) ≤ _; omega
   ·split at h
    ·cases h
    ·cases h; show (-1 : Int) ≤ _; decide
theorem Qo5 : ∀ (f i : Nat) (l : List UInt8), Jw4 (lexF f i l)
 | 0, _, _ => trivial
 | f + 1, i, l => by
  rw [lexF]
  split
  ·trivial
  ·split
   ·trivial
   ·rename_i h; exact ⟨tok1_num h, Qo5 f _ _⟩
theorem Jf9 {s s' : TS} (h : adv s = .ok s') (hs : Jw4 s) : Jw4 s' := by
 unfold adv at h
 split at h
 ·cases h
 ·cases h; exact hs.2
 ·cases h; exact hs
theorem Jj7 {s s' : TS} {w : List UInt8} (h : Jc4 s w = .ok s') (hs : Jw4 s) : Jw4 s' := by
 unfold Jc4 at h
 split at h
 ·exact Jf9 h hs
 ·cases h
theorem good_row {a b : QT} {lvl : Nat} {op : Int} {s : TS} (ha : Jd2 a) (hb : Jd2 b) (h : Jj6 lvl s = some op) : Jd2 (.n2 op 0 [] a b) := by
 refine ⟨rfl, ha, hb, rfl, ?_⟩
 unfold Jj6 at h
 split at h <;> (repeat' split at h) <;> cases h <;> simp
theorem rd_good : ∀ n : Nat, (∀ lvl s t s', Jw4 s → rd n lvl s = .ok (t, s') → Jd2 t ∧ Jw4 s') ∧ (∀ lvl u s t s', Jw4 s → Jd2 u → rw n lvl u s = .ok (t, s') → Jd2 t ∧ Jw4 s') ∧ (∀ op s t s', Jw4 s → wd n op s = .ok (t, s') → Jd2 t ∧ Jw4 s')
 | 0 => ⟨fun _ _ _ _ _ h => by simp [rd] at h, fun _ _ _ _ _ _ _ h => by simp [rw] at h, fun _ _ _ _ _ h => by simp [wd] at h⟩
 | n + 1 => by
  obtain ⟨ih1, ih2, ih3⟩ := rd_good n
  have hrow : ∀ lvl s t s', Jw4 s → (do let (t, s) ← rd n (Ji6 lvl) s; rw n lvl t s) = (.ok (t, s') : PR) → Jd2 t ∧ Jw4 s' := by
   intro lvl s t s' hs h
   obtain ⟨⟨t1, s1⟩, h1, h2⟩ := Jb1 h
   obtain ⟨g1, g2⟩ := ih1 _ _ _ _ hs h1
   exact ih2 _ _ _ _ _ g2 g1 h2
  refine ⟨fun lvl s t s' hs h => ?_, fun lvl u s t s' hs hu h => ?_, fun op s t s' hs h => ?_⟩
  ·unfold rd at h
   split at h
   ·split at h
    ·obtain ⟨s1, h1, h⟩ := Jb1 h
     obtain ⟨⟨t1, s2⟩, h2, h⟩ := Jb1 h
     cases h
     obtain ⟨g1, g2⟩ := ih1 _ _ _ _ (Jf9 h1 hs) h2
     exact ⟨⟨rfl, g1, .inl ⟨sI, rfl⟩⟩, g2⟩
    ·obtain ⟨⟨t1, s1⟩, h1, h⟩ := Jb1 h
     obtain ⟨g1, g2⟩ := ih1 _ _ _ _ hs h1
     dsimp only at h
     split at h
     ·rename_i op hop
      obtain ⟨s2, h2, h⟩ := Jb1 h
      obtain ⟨⟨t2, s3⟩, h3, h⟩ := Jb1 h
      cases h
      obtain ⟨g3, g4⟩ := ih1 _ _ _ _ (Jf9 h2 g2) h3
      have hm := List.mem_of_find?_eq_some hop
      refine ⟨⟨rfl, g1, g3, rfl, ?_⟩, g4⟩
      simp only [List.mem_cons, List.not_mem_nil, or_false] at hm
      rcases hm with rfl | rfl | rfl | rfl | rfl | rfl <;> simp
     ·cases h; exact ⟨g1, g2⟩
   ·exact hrow _ _ _ _ hs h
   ·exact hrow _ _ _ _ hs h
   ·exact hrow _ _ _ _ hs h
   ·exact hrow _ _ _ _ hs h
   ·split at h
    ·rename_i t0 r
     split at h
     ·rename_i h0
      obtain ⟨s1, h1, h⟩ := Jb1 h
      cases h
      exact ⟨.inl ⟨rfl, h0, hs.1, rfl⟩, Jf9 h1 hs⟩
     ·split at h
      ·obtain ⟨s1, h1, h⟩ := Jb1 h
       obtain ⟨⟨t2, s2⟩, h2, h⟩ := Jb1 h
       cases h
       obtain ⟨g1, g2⟩ := ih1 _ _ _ _ (Jf9 h1 hs) h2
       exact ⟨⟨rfl, g1, .inl ⟨sI, rfl⟩⟩, g2⟩
      ·split at h
       ·obtain ⟨s1, h1, h⟩ := Jb1 h
        obtain ⟨⟨t2, s2⟩, h2, h⟩ := Jb1 h
        obtain ⟨s3, h3, h⟩ := Jb1 h
        cases h
        obtain ⟨g1, g2⟩ := ih1 _ _ _ _ (Jf9 h1 hs) h2
        exact ⟨g1, Jj7 h3 g2⟩
       ·split at h
        ·rename_i k hk
         obtain ⟨s1, h1, h⟩ := Jb1 h
         cases h
         refine ⟨.inl ⟨rfl, oM, ?_, rfl⟩, Jf9 h1 hs⟩
         unfold Jr4 at hk
         simp only [Option.map_eq_some_iff] at hk
         obtain ⟨i, hi, rfl⟩ := hk
         have := (List.findIdx?_eq_some_iff_findIdx_eq.1 hi).1
         have e : Ja8.length = 11 := rfl
         omega
        ·split at h
         ·exact ih3 _ _ _ _ hs h
         ·split at h
          ·rename_i hn
           obtain ⟨s1, h1, h⟩ := Jb1 h
           cases h
           exact ⟨.inr (.inl ⟨rfl, rfl, hn⟩), Jf9 h1 hs⟩
          ·cases h
    ·cases h
  ·unfold rw at h
   split at h
   ·cases h; exact ⟨hu, hs⟩
   ·rename_i op hop
    obtain ⟨s1, h1, h⟩ := Jb1 h
    obtain ⟨⟨t2, s2⟩, h2, h⟩ := Jb1 h
    obtain ⟨g1, g2⟩ := ih1 _ _ _ _ (Jf9 h1 hs) h2
    exact ih2 _ _ _ _ _ g2 (good_row hu g1 hop) h
  ·unfold wd at h
   split at h
   ·obtain ⟨s1, h1, h⟩ := Jb1 h
    cases h
    exact ⟨.inr (.inr ⟨rfl, rfl, rfl⟩), Jf9 h1 hs⟩
   ·split at h
    ·rename_i hbi
     obtain ⟨s1, h1, h⟩ := Jb1 h
     split at h
     ·rename_i t0 r
      split at h
      ·cases h
      ·rename_i hnn
       obtain ⟨s2, h2, h⟩ := Jb1 h
       obtain ⟨s3, h3, h⟩ := Jb1 h
       obtain ⟨⟨t4, s4⟩, h4, h⟩ := Jb1 h
       cases h
       obtain ⟨g1, g2⟩ := ih1 _ _ _ _ (Jj7 h3 (Jf9 h2 (Jf9 h1 hs))) h4
       refine ⟨⟨rfl, g1, .inr ⟨?_, ?_⟩⟩, g2⟩
       ·simp only [Jb6, Bool.and_eq_true, decide_eq_true_eq] at hbi; omega
       ·cases hq : Jc5 t0.text with
        | true => rfl
        | false => exact absurd (.inr hq) hnn
     ·cases h
    ·split at h
     ·rename_i hca
      have hc5 : op = 8 ∨ op = 9 ∨ op = 10 ∨ op = 20 ∨ op = 21 := by simpa [Jm0, or_assoc] using hca
      obtain ⟨s1, h1, h⟩ := Jb1 h
      obtain ⟨s2, h2, h⟩ := Jb1 h
      obtain ⟨⟨t3, s3⟩, h3, h⟩ := Jb1 h
      obtain ⟨g1, g2⟩ := ih1 _ _ _ _ (Jj7 h2 (Jf9 h1 hs)) h3
      dsimp only at h
      split at h
      ·rename_i hk
       obtain ⟨s4, h4, h⟩ := Jb1 h
       cases h
       refine ⟨⟨rfl, g1, .inl ⟨?_, rfl⟩⟩, Jj7 h4 g2⟩
       rcases hc5 with rfl | rfl | rfl | rfl | rfl <;> first | (simp; done) | exact absurd hk dE
      ·rename_i hk
       obtain ⟨s4, h4, h⟩ := Jb1 h
       obtain ⟨⟨t5, s5⟩, h5, h⟩ := Jb1 h
       dsimp only at h
       obtain ⟨s6, h6, h⟩ := Jb1 h
       cases h
       obtain ⟨g3, g4⟩ := ih1 _ _ _ _ (Jj7 h4 g2) h5
       refine ⟨⟨rfl, g1, g3, rfl, ?_⟩, Jj7 h6 g4⟩
       rcases hc5 with rfl | rfl | rfl | rfl | rfl <;> first | (simp; done) | exact absurd dE hk
     ·cases h
theorem Qb0 {l : List UInt8} {t : QT} (h : Ja4 l = .ok t) : Jd2 t ∧ t.depth ≤ 64 ∧ t.size ≤ l.length := by
 unfold Ja4 at h
 split at h
 ·cases h
 ·have hlen := Qg3 (txt := l) l.length 0 oM oM
  split at h
  ·cases h
  ·obtain ⟨⟨t1, s1⟩, h1, h⟩ := Jb1 h
   have hz := (Ji1 _).1 _ _ _ _ h1
   obtain ⟨g1, _⟩ := (rd_good _).1 _ _ _ _ (Qo5 _ _ _) h1
   dsimp only at h
   split at h
   ·cases h
   ·split at h
    ·cases h
    ·cases h; exact ⟨g1, oM, oM⟩
theorem own_ops {op num : Int} {name : List UInt8} (h : ownQ op num name = true) : ∃ k : Nat, op = k ∧ 1 ≤ k ∧ k ≤ 26 ∧ 0 ≤ num ∧ (k ≠ 1 → num = 0) ∧ (22 ≤ k ∨ k = 2 → Jc5 name = true) ∧ (¬ (22 ≤ k ∨ k = 2) → name = []) := by
 unfold ownQ at h
 simp only [Bool.and_eq_true, decide_eq_true_eq, Bool.or_eq_true] at h
 obtain ⟨⟨⟨⟨h1, h2⟩, h3⟩, h4⟩, h5⟩ := h
 refine ⟨op.toNat, oM, oM, oM, h3, fun hk => ?_, fun hk => ?_, fun hk => ?_⟩
 ·rcases h4 with h4 | h4
  ·exact h4
  ·omega
 ·rw [if_pos] at h5
  ·exact h5
  ·simp only [Jb6, Bool.and_eq_true, decide_eq_true_eq]; omega
 ·rw [if_neg] at h5
  ·exact of_decide_eq_true h5
  ·simp only [Jb6, Bool.and_eq_true, decide_eq_true_eq]; omega
theorem Qo3 {k : Nat} (h1 : 1 ≤ k) (h2 : k ≤ 26) : (Jc7 k = 0 ∧ (k = 1 ∨ k = 2 ∨ k = 3)) ∨ (Jc7 k = 1 ∧ ((k = 4 ∨ k = 8 ∨ k = 9 ∨ k = 10 ∨ k = 17) ∨ (k = 22 ∨ k = 23 ∨ k = 24 ∨ k = 25 ∨ k = 26))) ∨ (Jc7 k = 2 ∧ (k = 5 ∨ k = 6 ∨ k = 7 ∨ k = 11 ∨ k = 12 ∨ k = 13 ∨ k = 14 ∨ k = 15 ∨ k = 16 ∨ k = 18 ∨ k = 19 ∨ k = 20 ∨ k = 21)) := by
 have hall : ∀ k ∈ List.range 27, 1 ≤ k → (Jc7 k = 0 ∧ (k = 1 ∨ k = 2 ∨ k = 3)) ∨ (Jc7 k = 1 ∧ ((k = 4 ∨ k = 8 ∨ k = 9 ∨ k = 10 ∨ k = 17) ∨ (k = 22 ∨ k = 23 ∨ k = 24 ∨ k = 25 ∨ k = 26))) ∨ (Jc7 k = 2 ∧ (k = 5 ∨ k = 6 ∨ k = 7 ∨ k = 11 ∨ k = 12 ∨ k = 13 ∨ k = 14 ∨ k = 15 ∨ k = 16 ∨ k = 18 ∨ k = 19 ∨ k = 20 ∨ k = 21)) := dE
 exact hall k (List.mem_range.2 oM) h1
theorem Jx4 : ∀ (f above : Nat) (l : List QN) (t : QT) (r : List QN), (∀ x ∈ l, x.num ≤ 9223372036854775807) → Jg5 f above l = some (t, r) → Jd2 t ∧ l = t.rows ++ r ∧ t.depth + above ≤ 64
 | 0, _, _, _, _, _, h => by simp [Jg5] at h
 | f + 1, _, [], _, _, _, h => by simp [Jg5] at h
 | f + 1, above, x :: r, t, r', hn, h => by
  rw [Jg5] at h
  split at h
  ·cases h
  ·rename_i hab
   split at h
   ·cases h
   ·rename_i ho
    have ho : ownQ x.op x.num x.name = true := by simpa using ho
    obtain ⟨k, hk, k1, k2, k3, k4, k5, k6⟩ := own_ops ho
    obtain ⟨xop, xsize, xnum, xname⟩ := x
    have hk : xop = k := hk
    subst hk
    have hx := hn _ (List.mem_cons_self ..)
    have hnr : ∀ x ∈ r, x.num ≤ 9223372036854775807 := fun x hx => hn x (List.mem_cons_of_mem _ hx)
    dsimp only at h k3 k4 k5 k6 hx
    rw [Int.toNat_natCast] at h
    rcases Qo3 k1 k2 with ⟨e, hop⟩ | ⟨e, hop⟩ | ⟨e, hop⟩
    ·rw [if_pos e] at h
     split at h
     ·rename_i hs
      cases h
      refine ⟨?_, by rw [hs]; rfl, by simp [QT.depth]; omega⟩
      rcases hop with rfl | rfl | rfl
      ·exact .inl ⟨rfl, k3, hx, k6 oM⟩
      ·exact .inr (.inl ⟨rfl, k4 oM, k5 oM⟩)
      ·exact .inr (.inr ⟨rfl, k4 oM, k6 oM⟩)
     ·cases h
    ·rw [if_neg oM] at h
     split at h
     ·cases h
     ·rename_i a r1 ha
      obtain ⟨ga, ea, da⟩ := Jx4 f (above + 1) r a r1 hnr ha
      rw [if_pos e] at h
      split at h
      ·rename_i hs
       cases h
       refine ⟨⟨k4 oM, ga, ?_⟩, by rw [hs, ea]; rfl, by simp only [QT.depth]; omega⟩
       rcases hop with hop | hop
       ·refine .inl ⟨?_, k6 oM⟩
        rcases hop with rfl | rfl | rfl | rfl | rfl <;> simp
       ·refine .inr ⟨?_, k5 oM⟩
        rcases hop with rfl | rfl | rfl | rfl | rfl <;> simp
      ·cases h
    ·rw [if_neg oM] at h
     split at h
     ·cases h
     ·rename_i a r1 ha
      obtain ⟨ga, ea, da⟩ := Jx4 f (above + 1) r a r1 hnr ha
      rw [if_neg oM] at h
      split at h
      ·cases h
      ·rename_i b r2 hb
       have hnr1 : ∀ x ∈ r1, x.num ≤ 9223372036854775807 := fun x hx => hnr x (by rw [ea]; exact List.mem_append_right _ hx)
       obtain ⟨gb, eb, db⟩ := Jx4 f (above + 1) r1 b r2 hnr1 hb
       split at h
       ·rename_i hs
        cases h
        refine ⟨⟨k4 oM, ga, gb, k6 oM, ?_⟩, by rw [hs, ea, eb]; simp [QT.rows], by simp only [QT.depth]; omega⟩
        rcases hop with rfl | rfl | rfl | rfl | rfl | rfl | rfl | rfl | rfl | rfl | rfl | rfl | rfl <;> simp
       ·cases h
theorem Jm7 {l : List QN} {t : QT} (hn : ∀ x ∈ l, x.num ≤ 9223372036854775807) (h : Jh1 l = some t) : Jd2 t ∧ l = t.rows ∧ t.depth ≤ 64 := by
 unfold Jh1 at h
 split at h
 ·rename_i t' hg
  cases h
  obtain ⟨h1, h2, h3⟩ := Jx4 _ _ _ _ _ hn hg
  exact ⟨h1, by rw [h2, List.append_nil], oM⟩
 ·cases h
end Go.Vc

