/- Query: sensible, looked, Check. -/
import Derived.Test.YtkgngbpkiklckaaGreatDoorQClQBack23
import Derived.Test.YtkgngbpkiklckaaGreatDoorQClQBack25
import Derived.WalkKit
import Derived.ProofKit
namespace Go.Vc
open Go Go.Proofs
set_option maxRecDepth 10000
variable {w : World}
/-- have all kids the sort that is asked for? -/
theorem sensible_ret : ∀ (t : QT) {w : World} {lo p : Nat}, TreeAt shQ lo w t p → Ret Tryz.prog 84 [ptr p] w (fun v w' => v = .bool (senseQ t) ∧ Kp [] w w') := by
  intro t
  induction t using QT.ind with
  | h t ih =>
  intro w lo p hT
  obtain ⟨bad, bcap, ks, hks, hB, hR, hK, _⟩ := hT.view
  have hmean : senseQ t = !(ks.any fun x => !decide (answerO x.2.op.toNat = ofO t.op.toNat) || !senseQ x.2) := by
    have e1 : (ks.any fun x => !decide (answerO x.2.op.toNat = ofO t.op.toNat) || !senseQ x.2) = (t.kids.any fun x => !decide (answerO x.op.toNat = ofO t.op.toNat) || !senseQ x) := by
      rw [← hks, List.any_map]; rfl
    rw [e1]
    cases t with
    | n0 op num name => rfl
    | n1 op num name a =>
      show (decide (answerO a.op.toNat = ofO op.toNat) && senseQ a) = !((!decide (answerO a.op.toNat = ofO op.toNat) || !senseQ a) || false)
      simp
    | n2 op num name a b =>
      show ((decide (answerO a.op.toNat = ofO op.toNat) && senseQ a) && (decide (answerO b.op.toNat = ofO op.toNat) && senseQ b)) = !((!decide (answerO a.op.toNat = ofO op.toNat) || !senseQ a) || ((!decide (answerO b.op.toNat = ofO op.toNat) || !senseQ b) || false))
      simp
  have hkl : ks.length ≤ 2 := by rw [← List.length_map (f := fun x : Nat × QT => x.2), hks]; exact t.kids_len
  have hpl := hB.lt
  rw [hmean]
  refine enter Tryz.call84 Tryz.func84 rfl rfl rfl rfl ?_
  (repeat first|refine zA ?_|refine zg ?_)
  refine o_box rfl rfl rfl ?_
  intro b w1 hb hu1
  have k1 : Kp [] w w1 := hu1.kp [] (.inr (by omega))
  have hB1 := k1.blk (by simp) hB
  have hb1 : Blk w1 b [ptr p] 87 := hu1.blk
  (repeat first|refine zA ?_|refine zg ?_|refine zo rfl rfl trivial ?_|refine zn ?_|refine o_load rfl hb1 rfl rfl rfl rfl rfl ?_)
  refine o_load (v := .slice bad ks.length bcap) rfl hB1 rfl rfl rfl rfl rfl ?_
  (repeat refine zo rfl rfl trivial ?_)
  refine o_call (ContainsTree_ret (f := 127) (cs := [ptr b]) (b := fun x => !decide (answerO x.2.op.toNat = ofO t.op.toNat) || !senseQ x.2) (hR.kp k1 (by simp)) hkl (fun x hx W kW => ?_)) rfl rfl rfl ?_
  · have hxk : x.2 ∈ t.kids := by rw [← hks]; exact List.mem_map_of_mem hx
    have hTx := (hK x hx).kp (k1.trans kW) (by simp)
    obtain ⟨_, _, _, _, hBx, _, _, _⟩ := hTx.view
    have hbW := kW.blk (by simp) hb1
    have hBW := kW.blk (by simp) hB1
    refine enter Tryz.call127 Tryz.func127 rfl rfl rfl rfl ?_
    (repeat first|refine zA ?_|refine zg ?_|refine zo rfl rfl trivial ?_|refine zn ?_)
    refine r_seq ?_
    refine r_cut (α := Unit) [3] (fun _ => [.bool (!decide (answerO x.2.op.toNat = ofO t.op.toNat) || !senseQ x.2)]) (fun _ W' => Kp [] W W') ?_ ?_
    · refine r_quietK follows_mixed (by kernel_rfl) ?_
      (repeat refine yo rfl rfl trivial ?_)
      refine q_load (v := I (answerO x.2.op.toNat)) rfl (fun _ hs => (Kp.blk hs (by simp) hBx).cell rfl) rfl rfl rfl rfl ?_
      refine q_load (v := ptr p) rfl (fun _ hs => (Kp.blk hs (by simp) hbW).cell rfl) rfl rfl rfl rfl ?_
      (repeat refine yo rfl rfl trivial ?_)
      refine q_load (v := I (ofO t.op.toNat)) rfl (fun _ hs => (Kp.blk hs (by simp) hBW).cell rfl) rfl rfl rfl rfl ?_
      (repeat refine yo rfl rfl trivial ?_)
      refine q_split _ _ rfl rfl rfl (fun h1 => ?_) (fun h1 => ?_)
      · (repeat first|refine yo rfl rfl trivial ?_|refine yn ?_)
        intro w' hs
        exact ⟨(), by rw [h1]; rfl, hs⟩
      · (repeat refine yo rfl rfl trivial ?_)
        refine q_call (.bool (senseQ x.2)) (fun w' hw => (ih x.2 hxk (hTx.kp hw (by simp))).mono (fun v w'' ⟨h1, h2⟩ => ⟨h1, hw.trans h2⟩)) Tryz.call84 rfl rfl rfl ?_
        (repeat first|refine yo rfl rfl trivial ?_|refine yn ?_)
        intro w' hs
        exact ⟨(), by rw [h1]; rfl, hs⟩
    rintro _ e2 w3 k3
    (repeat refine zr ?_)
    exact ⟨_, rfl, rfl, kW.trans k3⟩
  rintro v w3 ⟨rfl, k3⟩
  (repeat first|refine zo rfl rfl trivial ?_|refine zn ?_|refine zr ?_)
  exact ⟨_, rfl, rfl, k1.trans k3⟩
/-- a row of nodes as it is lent -/
structure Rows (w : World) (ad : Option Addr) (cap : Nat) (l : List QN) : Prop where
  read : ReadS w ad (l.flatMap qC)
  cap_ : l.length ≤ cap
  max_ : cap ≤ 9223372036854775807
  len : l.length ≤ 1048576
  name : ∀ x ∈ l, x.name.length ≤ 9223372036854775806
  num : ∀ x ∈ l, x.num ≤ 9223372036854775807
theorem Rows.kp {w' : World} {S' : List Nat} {ad : Option Addr} {cap : Nat} {l : List QN} (h : Rows w ad cap l) (hk : Kp S' w w') (hS : ∀ b ∈ blkOf ad, b ∉ S') : Rows w' ad cap l := ⟨h.read.kp hk hS, h.cap_, h.max_, h.len, h.name, h.num⟩
theorem looked_ret {l : List QN} {ad : Option Addr} {cap : Nat} (hA : AscW w) (hR : Rows w ad cap l) :
    Ret Tryz.prog 45 [qV ad l.length cap] w (fun v w' => (match lookedM l with | .error c => v = .tuple #[.pointer none, I c] | .ok t => ∃ p, v = .tuple #[ptr p, I 0] ∧ TreeAt shQ w.heap.size w' t p) ∧ Kp [] w w') := by
  have hm := hR.max_
  have hl : lookedM l = match wholeM l with | none => .error 305 | some t => if namedQ t [] = false then .error 303 else if senseQ t = false then .error 304 else .ok t := rfl
  refine enter Tryz.call45 Tryz.func45 rfl rfl rfl rfl ?_
  (repeat first|refine zA ?_|refine zg ?_)
  refine o_box rfl rfl rfl ?_
  intro b w1 hb hu1
  have k1 : Kp [] w w1 := hu1.kp [] (.inr (by omega))
  have y1 := k1.size
  have hb1 : Blk w1 b [.slice ad l.length cap] 24 := hu1.blk
  (repeat first|refine zA ?_|refine zg ?_|refine zo rfl rfl trivial ?_|refine zn ?_)
  refine o_loadA (vs := [.slice ad l.length cap]) rfl (fun j v hv => by rw [Nat.zero_add]; exact hb1.cell hv) rfl rfl rfl rfl rfl rfl ?_
  refine o_call (whole_ret (hA.kp k1 (by simp)) (hR.read.kp k1 (by simp)) hR.cap_ (by omega) hR.name) rfl rfl rfl ?_
  rintro v w2 ⟨hv, k2⟩
  cases hw : wholeM l with
  | none =>
    rw [hw] at hv hl
    have hv : v = .pointer none := hv
    subst hv
    rw [hl]
    (repeat first|refine zA ?_|refine zC ?_|refine zg ?_|refine zo rfl rfl trivial ?_|refine zn ?_|refine zb ?_|refine zr ?_|refine zt rfl ?_)
    exact ⟨_, rfl, rfl, k1.trans k2⟩
  | some t =>
    rw [hw] at hv hl
    obtain ⟨p, rfl, hT⟩ := hv
    obtain ⟨hg, hrow, hd⟩ := whole_good hR.num hw
    (repeat first|refine zA ?_|refine zC ?_|refine zg ?_|refine zo rfl rfl trivial ?_|refine zn ?_|refine zb ?_|refine zf rfl ?_)
    refine o_call (named_ret t hg (nad := none) (ncap := 0) [] hT rfl (by simp; omega)) rfl rfl rfl ?_
    rintro v w3 ⟨rfl, k3⟩
    cases hn : namedQ t [] with
    | false =>
      rw [hl]
      dsimp only
      rw [if_pos hn]
      (repeat first|refine zA ?_|refine zg ?_|refine zo rfl rfl trivial ?_|refine zn ?_|refine zr ?_|refine zt rfl ?_)
      exact ⟨_, rfl, rfl, (k1.trans k2).trans k3⟩
    | true =>
      rw [hl]
      dsimp only
      rw [if_neg (by rw [hn]; simp)]
      (repeat first|refine zA ?_|refine zg ?_|refine zo rfl rfl trivial ?_|refine zn ?_|refine zf rfl ?_)
      refine o_call (sensible_ret t (hT.kp k3 (by simp))) rfl rfl rfl ?_
      rintro v w4 ⟨rfl, k4⟩
      cases hs : senseQ t with
      | false =>
        rw [if_pos rfl]
        (repeat first|refine zA ?_|refine zg ?_|refine zo rfl rfl trivial ?_|refine zn ?_|refine zr ?_|refine zt rfl ?_)
        exact ⟨_, rfl, rfl, ((k1.trans k2).trans k3).trans k4⟩
      | true =>
        rw [if_neg (by simp)]
        (repeat first|refine zA ?_|refine zg ?_|refine zo rfl rfl trivial ?_|refine zn ?_|refine zr ?_|refine zk ?_|refine zf rfl ?_)
        exact ⟨_, rfl, ⟨p, rfl, ((hT.kp k3 (by simp)).kp k4 (by simp)).lo_le y1⟩, ((k1.trans k2).trans k3).trans k4⟩
/-- P30.2 as the program has it -/
def checkM (l : List QN) : Int × Int :=
  match lookedM l with
  | .error c => (0, c)
  | .ok t => (answerO t.op.toNat, 0)
end Go.Vc
/- Query: a builder of texts (the shelf's contracts), a number's digits. -/
namespace Go.Vc
open Go Go.Proofs Go.Shelf Go.RowKit
set_option maxRecDepth 10000
variable {w : World}
theorem r_lastKL {P : Program} {n : Nat} {e : Env} {K : EPost} {X : List (Nat × EPost)} {R : EPost} {ro : Ro} {o : Oper} {id : Nat} {L : List Oper} (hm : P.follows .mixedOrders = true) (hL : L.getLast? = some o) (hB : Region.lexB .any L.dropLast.toArray = true) (hS : sinkB L = true)
    (h : QOps P n L.dropLast [] (Kp [] w) (fun e' => ∀ w', Kp [] w w' → Ops ro P n [o] [] K [o] e' w') L.dropLast e) : Wp ro P n (.region id L.toArray true) K X R e w := by
  have e1 : L = L.dropLast ++ [o] := by
    have hne : L ≠ [] := by rintro rfl; simp at hL
    have h1 := List.dropLast_concat_getLast hne
    have h2 := List.getLast?_eq_some_getLast hne
    rw [hL] at h2
    rw [← Option.some.inj h2] at h1
    exact h1.symm
  exact r_lastC (Kp [] w) hm e1 hB (by rw [← e1]; exact hS) ((Sm.drew w).kp []) h
/-- a builder that holds a text, made since w0 -/
structure BdAt (w0 w : World) (b : Nat) (l : List UInt8) : Prop where
  is : Lib.IsBuilderF 92 5 w0.heap.size b (Lib.byteCells l) w
  kp : Kp [] w0 w
theorem isB_kp {B b : Nat} {bs : List Value} {w' : World} {T e : TypeId} (h : Lib.IsBuilderF T e B b bs w) (hk : Kp [] w w') : Lib.IsBuilderF T e B b bs w' := by
  have at_ : ∀ {p : Value}, Lib.BuilderAtF T e B b p bs w → Lib.BuilderAtF T e B b p bs w' := by
    rintro p ⟨h1, v, h2, ⟨h3, h4⟩, h5⟩
    have keep : ∀ {k : Nat} {o : Obj}, w.heap[k]? = some o → w'.heap[k]? = some o := fun {k o} hko => by
      rw [hk.at_ k (Array.getElem?_eq_some_iff.1 hko).1 (by simp)]; exact hko
    refine ⟨h1, v, keep h2, ⟨h3, ?_⟩, h5⟩
    rcases h4 with h4 | ⟨g, cap, cur, fz, g1, g2, g3, g4⟩
    · exact .inl h4
    · exact .inr ⟨g, cap, cur, fz, g1, g2, keep g3, g4⟩
  exact h.elim (fun h => .inl (at_ h)) (fun h => .inr (at_ h))
theorem BdAt.kp' {w0 w' : World} {b : Nat} {l : List UInt8} (h : BdAt w0 w b l) (hk : Kp [] w w') : BdAt w0 w' b l := ⟨isB_kp h.is hk, h.kp.trans hk⟩
theorem BdAt.ge {w0 : World} {b : Nat} {l : List UInt8} (h : BdAt w0 w b l) : w0.heap.size ≤ b := h.is.elim (fun h => h.1) (fun h => h.1)
/-- what writing to a builder leaves -/
structure BdTo (w0 w : World) (b : Nat) (l : List UInt8) (w' : World) : Prop extends BdAt w0 w' b l where
  oth : Lib.OthersKept 5 (some b) w w'
  size : w.heap.size ≤ w'.heap.size
theorem BdTo.trans {w0 w1 w2 : World} {b : Nat} {l l' : List UInt8} (h : BdTo w0 w b l w1) (k : BdTo w0 w1 b l' w2) : BdTo w0 w b l' w2 := ⟨k.toBdAt, h.oth.trans k.oth, Nat.le_trans h.size k.size⟩
theorem BdTo.since {w0 w1 w2 : World} {b : Nat} {l : List UInt8} (h : Kp [] w w1) (k : BdTo w0 w1 b l w2) : BdTo w0 w b l w2 :=
  ⟨k.toBdAt, fun i o hi hb ho => k.oth i o (by rw [h.at_ i (Array.getElem?_eq_some_iff.1 hi).1 (by simp)]; exact hi) hb ho, Nat.le_trans h.size k.size⟩
theorem BdTo.blk {w0 w' : World} {b c : Nat} {l : List UInt8} {cs : List Value} {T : TypeId} (h : BdTo w0 w b l w') (hc : Blk w c cs T) (hcb : c ≠ b) (hT : T ≠ 5) : Blk w' c cs T :=
  h.oth c _ hc (fun e => hcb (Option.some.inj e)) (fun x fz e => by injection e with _ e2; exact hT e2)
theorem kp_of_below {w0 w1 w2 : World} (h : Kp [] w0 w1) (hb : Below w0.heap.size w1 w2) : Kp [] w0 w2 := by
  obtain ⟨h1, h2, h3, h4, h5⟩ := hb
  exact ⟨h1.trans h.os, h2.trans h.tape, h3.trans h.output, Nat.le_trans h.size h4, fun k hk hS => (h5 k hk).trans (h.at_ k hk hS)⟩
theorem xWB : Builder.Extra Tryz.prog Tryz.layWB_ren := { sizeBuilder := by kernel_rfl, liesBuilder := by kernel_rfl, t5 := Tryz.underlying5, a5 := Tryz.isAgg5, z5 := Tryz.sizeOf5, v5 := Tryz.zeroValue5, infoByte := by kernel_rfl, cellsByte := by kernel_rfl, sizeByte := by kernel_rfl, neB5 := by decide }
theorem xWS : Builder.Extra Tryz.prog Tryz.layWS_ren := { sizeBuilder := by kernel_rfl, liesBuilder := by kernel_rfl, t5 := Tryz.underlying5, a5 := Tryz.isAgg5, z5 := Tryz.sizeOf5, v5 := Tryz.zeroValue5, infoByte := by kernel_rfl, cellsByte := by kernel_rfl, sizeByte := by kernel_rfl, neB5 := by decide }
theorem xBS : Builder.Extra Tryz.prog Tryz.layBS_ren := { sizeBuilder := by kernel_rfl, liesBuilder := by kernel_rfl, t5 := Tryz.underlying5, a5 := Tryz.isAgg5, z5 := Tryz.sizeOf5, v5 := Tryz.zeroValue5, infoByte := by kernel_rfl, cellsByte := by kernel_rfl, sizeByte := by kernel_rfl, neB5 := by decide }
theorem byteCells_app (l r : List UInt8) : Lib.byteCells (l ++ r) = Lib.byteCells l ++ Lib.byteCells r := by simp [Lib.byteCells]
theorem byteCells_len (l : List UInt8) : (Lib.byteCells l).length = l.length := by simp [Lib.byteCells]
theorem WriteByte_ret {w0 : World} {b : Nat} {l : List UInt8} (h : BdAt w0 w b l) (hl : l.length ≤ 70368744177664) (c : UInt8) : Ret Tryz.prog 74 [ptr b, Y c] w (fun v w' => v = .nilIface ∧ BdTo w0 w b (l ++ [c]) w') := by
  refine ⟨Tryz.call74, ?_⟩
  refine Calls.mono (Any.Builder_WriteByte_k Tryz.layWB xWB w0.heap.size b (Lib.byteCells l) (c.toNat : Int) w h.is (by rw [byteCells_len]; omega) h.kp.size) ?_
  rintro e w' ⟨rfl, h1, h2, h3⟩
  refine ⟨_, rfl, rfl, ⟨⟨?_, kp_of_below h.kp h2⟩, h3, h2.size⟩⟩
  rw [byteCells_app]
  exact .inr h1
theorem WriteString_ret {w0 : World} {b : Nat} {l : List UInt8} (h : BdAt w0 w b l) (s : List UInt8) (hl : l.length + s.length ≤ 70368744177664) : Ret Tryz.prog 75 [ptr b, S s] w (fun v w' => v = .tuple #[I s.length, .nilIface] ∧ BdTo w0 w b (l ++ s) w') := by
  refine ⟨Tryz.call75, ?_⟩
  refine Calls.mono (Any.Builder_WriteString_k Tryz.layWS xWS w0.heap.size b (Lib.byteCells l) ⟨⟨s⟩⟩ w h.is (by rw [byteCells_len]; show l.length + s.length ≤ _; omega) h.kp.size) ?_
  rintro e w' ⟨rfl, h1, h2, h3⟩
  refine ⟨_, rfl, rfl, ⟨⟨?_, kp_of_below h.kp h2⟩, h3, h2.size⟩⟩
  rw [byteCells_app]
  exact .inr h1
theorem BLen_ret {w0 : World} {b : Nat} {l : List UInt8} (h : BdAt w0 w b l) : Ret Tryz.prog 38 [ptr b] w (fun v w' => v = I l.length ∧ w' = w) := by
  refine ⟨Tryz.call38, ?_⟩
  refine Calls.mono (Any.Builder_Len_f Tryz.layBL w0.heap.size b (Lib.byteCells l) w h.is) ?_
  rintro e w' ⟨rfl, h2⟩
  exact ⟨_, rfl, by rw [byteCells_len], h2⟩
theorem BString_ret {w0 : World} {b : Nat} {l : List UInt8} (h : BdAt w0 w b l) : Ret Tryz.prog 39 [ptr b] w (fun v w' => v = S l ∧ BdTo w0 w b l w') := by
  refine ⟨Tryz.call39, ?_⟩
  refine Calls.mono (Any.Builder_String_any_k Tryz.layBS xBS w0.heap.size b l w h.is h.kp.size) ?_
  rintro e w' ⟨rfl, h1, h2, h3⟩
  exact ⟨_, rfl, rfl, ⟨⟨h1, kp_of_below h.kp h2⟩, h3, h2.size⟩⟩
/-- the table of powers of ten -/
def PowQ (w : World) : Prop := Lib.TabIs Tryz.prog w "internal/strconv.uint64pow10" .u64 Lib.pow10Tab
theorem powGQ : Tryz.prog.globalNamed "internal/strconv.uint64pow10" = some 2 := by kernel_rfl
theorem PowQ.heap {w w' : World} (h : PowQ w) (hk : w'.heap[2]? = w.heap[2]?) : PowQ w' := by
  unfold PowQ Lib.TabIs World.var? at *
  rw [powGQ] at *
  simpa [hk] using h
theorem PowQ.lt {w : World} (h : PowQ w) : 2 < w.heap.size := by
  unfold PowQ Lib.TabIs World.var? at *
  rw [powGQ] at *
  simp only [Option.bind_some] at h
  cases hx : w.heap[2]? with
  | none => rw [hx] at h; simp at h
  | some o => exact (Array.getElem?_eq_some_iff.1 hx).1
theorem PowQ.kp {w w' : World} {F : List Nat} (h : PowQ w) (hk : Kp F w w') (hF : 2 ∉ F) : PowQ w' := h.heap (hk.at_ _ h.lt hF)
theorem grown_kpQ {w1 : World} {k : Nat} {os : Array Obj} (h : w1 = Go.Sort.grow (w.drewN k) os) : Kp [] w w1 := by
  subst h
  refine ⟨rfl, rfl, rfl, ?_, fun i hi _ => ?_⟩
  · show w.heap.size ≤ (w.heap ++ os).size
    rw [Array.size_append]; omega
  · show (w.heap ++ os)[i]? = _
    exact Array.getElem?_append_left hi
theorem Itoa_ret (hP : PowQ w) (n : Nat) (hn : n ≤ 9223372036854775807) : Ret Tryz.prog 76 [I n] w (fun v w' => v = S (Lib.decDigits n) ∧ Kp [] w w') := by
  refine ⟨Tryz.call76, ?_⟩
  refine Calls.mono (Any.strconv_Itoa Tryz.layItoa (n : Int) (by omega) (by omega) w hP) ?_
  rintro e w' ⟨rfl, k, os, hw⟩
  exact ⟨_, rfl, by show _ = Value.string ⟨⟨Lib.decDigits n⟩⟩; unfold Lib.itoa; simp, grown_kpQ hw⟩
end Go.Vc
