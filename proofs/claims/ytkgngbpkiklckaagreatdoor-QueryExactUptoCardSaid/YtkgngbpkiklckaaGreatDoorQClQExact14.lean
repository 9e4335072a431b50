/- Parts of a proof. -/
import Derived.OpenShut
import Derived.Deep.Slices
import Derived.ChangeArms
import Derived.Test.YtkgngbpkiklckaaGreatDoorQClQExact13
import Derived.DefersIn
import Derived.RecoverIn
import Derived.WideLaws
set_option maxHeartbeats 12800000
namespace Go.Vc
open Go
def IsRow (k : IntKind) (w : World) (a : Option Addr) (len cap : Nat) (zs : List Int) : Prop :=
 (a = none ∧ len = 0 ∧ cap = 0 ∧ zs = []) ∨
 ∃ x, a = some x ∧ len ≤ cap ∧ cap ≤ maxLen ∧ zs.length = cap ∧ (∀ i, i < zs.length → w.cell? (x.add i) = some (.int k (zs.getD i 0))) ∧ ∀ n ∈ zs, (Lit.int k n).wf = true
theorem IsRow.read {k : IntKind} {w : World} {a : Option Addr} {len cap : Nat} {zs : List Int} (h : IsRow k w a len cap zs) : Ja7 w a (zs.map (Value.int k)) := by
 rcases h with ⟨rfl, _, _, rfl⟩ | ⟨x, rfl, _, _, _, hc, _⟩
 ·rfl
 ·intro i v hv
  have hi : i < zs.length := by have := (List.getElem?_eq_some_iff.1 hv).1; simpa using this
  rw [hc i hi]
  simp [hi] at hv
  subst hv
  simp [List.getD_eq_getElem?_getD, hi]
end Go.Vc

namespace Go.Vc
open Go
variable {H : Type} {enc : TypeId × Value → H} {P : Program} {w : World} {base : Nat} {spare : Nat → Bool} {held : Bool}
theorem Jj3 {t : TypeId} {k : IntKind} {fuel : Nat} {v : Value} {x : DataW H × List MemPlace} (ht : P.underlying t = some (.int k)) (h : DataW.trod enc P w base spare held fuel t [v] = some x) : ∃ z, v = .int k z ∧ (Lit.int k z).wf = true := by
 cases fuel with
 | zero => simp [DataW.trod] at h
 | succ n =>
  unfold DataW.trod at h
  rw [ht] at h
  cases v <;> simp at h
  obtain ⟨⟨rfl, hw⟩, _⟩ := h
  exact ⟨_, rfl, hw⟩
theorem Qd7 {t : TypeId} {fuel : Nat} {v : Value} {x : DataW H × List MemPlace} (ht : P.underlying t = some .string) (h : DataW.trod enc P w base spare held fuel t [v] = some x) : ∃ s : ByteArray, v = .string s ∧ s.size ≤ maxLen ∧ x.1 = .lit (.string s.data.toList) := by
 cases fuel with
 | zero => simp [DataW.trod] at h
 | succ n =>
  unfold DataW.trod at h
  rw [ht] at h
  cases v <;> simp at h
  obtain ⟨h1, h2⟩ := h
  exact ⟨_, rfl, h1, by rw [← h2]⟩
theorem trod_recs {t e : TypeId} {m : Nat} {fuel : Nat} {a : Option Addr} {len cap : Nat} {x : DataW H × List MemPlace} (ht : P.underlying t = some (.slice e)) (hm : P.cellsOf e = m) (h : DataW.trod enc P w base spare held fuel t [.slice a len cap] = some x) :
  ∃ (n : Nat) (Cs : List (List Value)) (D : List (DataW H)), Cs.length = len ∧ D.length = len ∧ Ja7 w a Cs.flatten ∧ (∀ (i : Nat) (cs : List Value), Cs[i]? = some cs → cs.length = m ∧ ∃ (d : DataW H) (p : List MemPlace), D[i]? = some d ∧ DataW.trod enc P w base spare held n e cs = some (d, p)) ∧ (x.1 = .nil ∧ D = [] ∨ ∃ sp, x.1 = .slice D sp) ∧ len ≤ cap ∧ cap ≤ maxLen := by
 rcases Go.Deep.open_slice ht h with ⟨hc, rfl⟩ | ⟨a', len', cap', mm, n, D, Pl, hc, _, hl, hcap, hmm, rfl, hx⟩
 ·simp at hc
  obtain ⟨rfl, rfl, rfl⟩ := hc
  exact ⟨0, [], [], rfl, rfl, rfl, fun i cs h => by simp at h, .inl ⟨rfl, rfl⟩, lR, Nat.zero_le _⟩
 ·simp at hc
  obtain ⟨rfl, rfl, rfl⟩ := hc
  have hle : len ≤ mm := by rw [hmm]; split <;> omega
  rw [hm] at hx
  have key : ∀ k, k ≤ len → ∃ Cs : List (List Value), Cs.length = k ∧ Ja7 w (some a') Cs.flatten ∧ Cs.flatten.length = k * m ∧ ∀ (i : Nat) (cs : List Value), Cs[i]? = some cs → cs.length = m ∧ DataW.trod enc P w base spare held n e cs = some (D i, Pl i) := by
   intro k
   induction k with
   | zero => intro _; exact ⟨[], rfl, (fun i v h => by simp at h), sI, fun i cs h => by simp at h⟩
   | succ k ih =>
    intro hk
    obtain ⟨Cs, h1, h2, h3, h4⟩ := ih oM
    obtain ⟨cs', g1, g2⟩ := hx k oM
    obtain ⟨_, g3, g4⟩ := World.cells?_some g1
    refine ⟨Cs ++ [cs'], by simp [h1], fun i v hv => ?_, ?_, fun i cs hcs => ?_⟩
    ·rw [List.flatten_append] at hv
     by_cases hi : i < k * m
     ·rw [List.getElem?_append_left oM] at hv
      exact h2 i v hv
     ·rw [List.getElem?_append_right oM, h3] at hv
      simp at hv
      have hlt : i - k * m < m := by have := (List.getElem?_eq_some_iff.1 hv).1; omega
      have := g4 _ hlt
      rw [hv] at this
      rw [← this]
      have hi' : k * m ≤ i := oM
      have ea : (a'.add (k * m)).add (i - k * m) = a'.add i := by
       generalize k * m = z at hi'
       unfold Addr.add
       by_cases h0 : z = 0
       ·subst h0; simp
       ·by_cases h1 : i - z = 0
        ·have : i = z := oM
         subst this; simp
        ·rw [if_neg h0, if_neg h1, if_neg oM]
         simp; omega
      rw [ea]
    ·rw [List.flatten_append, List.length_append, h3]; simp [g3, Nat.succ_mul]
    ·by_cases hi : i < k
     ·rw [List.getElem?_append_left oM] at hcs
      exact h4 i cs hcs
     ·have hik : i = k := by
       have := (List.getElem?_eq_some_iff.1 hcs).1
       simp [h1] at this; omega
      subst hik
      rw [List.getElem?_append_right oM, h1] at hcs
      simp at hcs; subst hcs
      exact ⟨g3, g2⟩
  obtain ⟨Cs, h1, h2, h3, h4⟩ := key len lR
  refine ⟨n, Cs, (List.range len).map D, h1, sI, h2, fun i cs hcs => ?_, .inr ⟨_, rfl⟩, hl, hcap⟩
  have hi : i < len := by rw [← h1]; exact (List.getElem?_eq_some_iff.1 hcs).1
  obtain ⟨g1, g2⟩ := h4 i cs hcs
  exact ⟨g1, D i, Pl i, by simp [hi], g2⟩
end Go.Vc

namespace Go.Vc
open Go
variable {P : Program} {n : Nat} {a : Act} {e : Env} {w : World} {K : Jc0} {X : List (Nat × Jc0)} {R : Jc0} {all : List Oper} {G : List Nat} {ro : Ro}
section
variable {dst : Option Tmp} {ty : TypeId} {pos : String} {after : Array Edge} {g : Option (Nat × Bool)} {l : List Oper} {t : TypeId} {x y : Operand}
end
end Go.Vc

namespace Go.Vc
open Go Go.Proofs
set_option maxRecDepth 20000
section
variable {w : World}
def QT.kids : QT → List QT
 | .n0 .. => []
 | .n1 _ _ _ a => [a]
 | .n2 _ _ _ a b => [a, b]
def QT.num : QT → Int
 | .n0 _ m _ => m
 | .n1 _ m _ _ => m
 | .n2 _ m _ _ _ => m
def QT.name : QT → List UInt8
 | .n0 _ _ s => s
 | .n1 _ _ s _ => s
 | .n2 _ _ s _ _ => s
def QT.node (t : QT) : QN := ⟨t.op, t.size, t.num, t.name⟩
theorem QT.ind {C : QT → Prop} (h : ∀ t, (∀ k ∈ t.kids, C k) → C t) : ∀ t, C t
 | .n0 .. => h _ (by simp [QT.kids])
 | .n1 _ _ _ a => h _ (by simp [QT.kids]; exact QT.ind h a)
 | .n2 _ _ _ a b => h _ (by simp [QT.kids]; exact ⟨QT.ind h a, QT.ind h b⟩)
theorem QT.rows_kids (t : QT) : t.rows = t.node :: t.kids.flatMap QT.rows := by
 cases t <;> simp [QT.rows, QT.node, QT.kids, QT.op, QT.num, QT.name, QT.size]
theorem QT.size_kids (t : QT) : t.size = 1 + (t.kids.map QT.size).sum := by
 cases t <;> simp [QT.size, QT.kids]; omega
theorem QT.depth_le (t : QT) (m : Nat) : t.depth ≤ m + 1 ↔ ∀ k ∈ t.kids, k.depth ≤ m := by
 cases t <;> simp [QT.depth, QT.kids] <;> omega
theorem QT.depth_lt {t k : QT} (h : k ∈ t.kids) : k.depth < t.depth := by
 cases t <;> simp [QT.kids] at h
 ·subst h; simp [QT.depth]
 ·rcases h with rfl | rfl <;> simp [QT.depth] <;> omega
theorem QT.kids_len (t : QT) : t.kids.length ≤ 2 := by cases t <;> simp [QT.kids]
theorem Jc3.view {sh : Int → List Value} {lo : Nat} {t : QT} {p : Nat} (h : Jc3 sh lo w t p) : ∃ ad cap, ∃ ks : List (Nat × QT), ks.map (·.2) = t.kids ∧ TBlk sh w p t.op t.size t.num t.name (.slice ad ks.length cap) ∧ Ja7 w ad (ks.map fun x => ptr x.1) ∧ (∀ x ∈ ks, Jc3 sh lo w x.2 x.1) ∧ lo ≤ p := by
 cases t with
 | n0 o m s => obtain ⟨h1, ad, cap, h2⟩ := h; exact ⟨ad, cap, [], rfl, h2, by cases ad with | none => rfl | some ad => exact fun i v hv => by simp at hv, sI, h1⟩
 | n1 o m s a => obtain ⟨h1, ad, cap, q, h2, h3, h4, h5⟩ := h; exact ⟨ad, cap, [(q, a)], rfl, h2, h3, by simpa using h5, h1⟩
 | n2 o m s a b => obtain ⟨h1, ad, cap, q, r, h2, h3, h4, h5, h6⟩ := h; exact ⟨ad, cap, [(q, a), (r, b)], rfl, h2, h3, by simpa using ⟨h5, h6⟩, h1⟩
def qC (x : QN) : List Value := [I x.op, I x.size, I x.num, S x.name]
theorem Qh5 (x : QN) : (qC x).length = 4 := rfl
theorem Jf5 (l : List QN) : (l.flatMap qC).length = l.length * 4 := by
 induction l with
 | nil => rfl
 | cons x l ih => simp only [List.flatMap_cons, List.length_append, ih, Qh5, List.length_cons]; omega
theorem lay_ok : ∀ (t : QT) {sh : Int → List Value} {lo : Nat} {w0 w : World} {q n cap : Nat} {ad : Option Addr} {xs : List Value} (above : Nat), (∀ o, (sh o).length = 6) → Jc3 sh lo w0 t q → Kp [] w0 w → OwnS w 81 4 ad n cap xs → (∀ b ∈ Ja1 ad, w0.heap.size ≤ b) → n + t.size ≤ 1048576 → above ≤ 1000 →
  RetP Tryz.prog 44 [ptr q, .slice ad n cap, I above] w (fun v w' => above + t.depth ≤ 64 ∧ ∃ ad' cap', v = .slice ad' (n + t.size) cap' ∧ OwnS w' 81 4 ad' (n + t.size) cap' (xs ++ t.rows.flatMap qC) ∧ Kp [] w0 w' ∧ ∀ b ∈ Ja1 ad', w0.heap.size ≤ b)
   (fun v w' => 64 < above + t.depth ∧ v = refV 302 0 ∧ Kp [] w0 w') := by
 intro t
 induction t using QT.ind with
 | h t ih =>
 intro sh lo w0 w q n cap ad xs above hsh hT k0 hO hfr hn habv
 obtain ⟨bad, bcap, ks, hks, hB, hR, hK, _⟩ := hT.view
 have hBw := k0.b0 hB
 have hRw := hR.kp k0 sI
 have hz := t.size_kids
 refine Zp Tryz.call44 Tryz.func44 ?_
 refine zS ?_
 refine r_if rfl (fun hc => ?_) (fun hc => ?_)
 ·refine zS ?_
  exact Jb7 (Jp2 _ _ (fun _ _ => False)) rfl rfl rfl (fun v w' ⟨h, h'⟩ => ⟨oM, h, h' ▸ k0⟩) (fun v w' h => h.elim)
 ·refine zS ?_
  refine Jq2 (b := q) (off := 0) (vs := qC t.node) rfl (fun j v hv => hBw.cell (by
   rw [Nat.zero_add, List.append_assoc, List.getElem?_append_left (by have h := (List.getElem?_eq_some_iff.1 hv).1; simpa [qC] using h)]
   exact hv)) rfl rfl rfl rfl rfl rfl ?_
  refine Zn (qC t.node) rfl rfl rfl kR ?_
  intro b w1 hb hu1
  have k1 : Kp [] w w1 := hu1.new oM
  refine Jo0 (ay := ⟨b, 0, none⟩) (m := 1) (qC t.node) rfl rfl (hO.kp k1 sI) (fun j v hv => by rw [Jc1, Nat.zero_add]; exact hu1.blk.cell hv) rfl rfl rfl dE rfl dE (by simp [Value.oneCell', qC]) (by simp only [maxLen]; omega) oM rfl rfl ?_
  intro ad1 cap1 w2 hO2 k2 hn2
  have k02 : Kp [] w0 w2 := (k0.trans k1).since k2 hfr
  have hfr2 : ∀ b ∈ Ja1 ad1, w0.heap.size ≤ b := fun c hc => by
   rcases hn2 c hc with h | h
   ·exact hfr c h
   ·have := (k0.trans k1).size; omega
  have hB2 := k02.b0 hB
  have hR2 := hR.kp k02 sI
  refine zS ?_
  refine Jf4 (v := .slice bad ks.length bcap) rfl hB2 (by
   have e : ([I t.op, I t.size, I t.num, S t.name] ++ sh t.op ++ [Value.slice bad ks.length bcap])[10]? = some (.slice bad ks.length bcap) := by
    rw [List.getElem?_append_right (by simp [hsh])]
    simp [hsh]
   exact e) rfl rfl rfl rfl ?_
  refine zS ?_
  have hkl : ks.length ≤ 2 := by rw [← List.length_map (f := fun x : Nat × QT => x.2), hks]; exact t.kids_len
  have hsum : ∀ i, ((ks.take i).map fun x => x.2.size).sum ≤ (t.kids.map QT.size).sum := by
   intro i
   rw [← hks, List.map_map]
   have := List.take_append_drop i ks
   conv => rhs; rw [← this]
   rw [List.map_append, List.sum_append]
   show _ ≤ ((ks.take i).map fun x => x.2.size).sum + _
   omega
  refine Jb4 (α := Nat × Option Addr × Nat) [1, 2, 22, 23, 24] (fun x => [.slice x.2.1 (n + 1 + ((ks.take x.1).map fun x => x.2.size).sum) x.2.2, I above, .slice bad ks.length bcap, I ks.length, I x.1])
   (fun x W => x.1 ≤ ks.length ∧ Kp [] w0 W ∧ OwnS W 81 4 x.2.1 (n + 1 + ((ks.take x.1).map fun x => x.2.size).sum) x.2.2 (xs ++ (t.node :: (ks.take x.1).flatMap fun x => x.2.rows).flatMap qC) ∧ (∀ b ∈ Ja1 x.2.1, w0.heap.size ≤ b) ∧ ∀ y ∈ ks.take x.1, above + 1 + y.2.depth ≤ 64) (fun x => ks.length - x.1) (0, ad1, cap1) rfl ⟨Nat.zero_le _, k02, by simpa using hO2, hfr2, sI⟩ ?_
  rintro ⟨i, ad3, cap3⟩ e W ⟨hi, kW, hOW, hfW, hd⟩
  dsimp only at hi hOW hfW hd ⊢
  refine zS ?_
  refine r_if rfl (fun hlt => ?_) (fun hlt => ?_)
  ·have hi2 : i < ks.length := oM
   obtain ⟨x, hx⟩ : ∃ x, ks[i]? = some x := ⟨_, List.getElem?_eq_getElem hi2⟩
   obtain ⟨b3, off, rfl, _, hcell⟩ := (hR.kp kW sI).at_ (by simp; omega)
   have hxm := List.mem_of_getElem? hx
   have hxk : x.2 ∈ t.kids := by rw [← hks]; exact List.mem_map_of_mem hxm
   have ht1 : (ks.take (i + 1)) = ks.take i ++ [x] := by rw [List.take_add_one, hx]; rfl
   have hs1 : ((ks.take (i + 1)).map fun x => x.2.size).sum = ((ks.take i).map fun x => x.2.size).sum + x.2.size := by rw [ht1]; simp
   have hs2 := hsum (i + 1)
   refine zS ?_
   refine Zo (v := ptr x.1) rfl (by rw [Ja2]; exact hcell i _ (by rw [List.getElem?_map, hx]; rfl)) ?_
   refine zS ?_
   refine Jb7 (ih x.2 hxk (above + 1) hsh (hK x hxm) kW hOW hfW oM oM) rfl rfl rfl (fun v w' hE => ?_) ?_
   ·obtain ⟨g1, g2, g3⟩ := hE
    have := t.depth_lt hxk
    exact ⟨oM, g2, g3⟩
   rintro v w4 ⟨g1, ad', cap', rfl, hO4, k4, hf4⟩
   refine zS ?_
   have e1 : n + 1 + ((ks.take (i + 1)).map fun x => x.2.size).sum = n + 1 + ((ks.take i).map fun x => x.2.size).sum + x.2.size := oM
   refine ⟨(i + 1, ad', cap'), ?_, ⟨by dsimp only; omega, k4, ?_, hf4, ?_⟩, by dsimp only; omega⟩
   ·dsimp only; rw [e1]; rfl
   ·dsimp only
    rw [e1, ht1, List.flatMap_append, List.flatMap_singleton, ← List.cons_append, List.flatMap_append, ← List.append_assoc]
    exact hO4
   ·intro y hy
    dsimp only at hy
    rw [ht1, List.mem_append] at hy
    rcases hy with hy | hy
    ·exact hd y hy
    ·simp at hy; subst hy; omega
  ·have : i = ks.length := oM
   subst this
   rw [List.take_length] at hOW hd
   have e1 : (ks.map fun x => x.2.size).sum = (t.kids.map QT.size).sum := by rw [← hks, List.map_map]; rfl
   have e2 : (ks.flatMap fun x => x.2.rows) = t.kids.flatMap QT.rows := by rw [← hks, List.flatMap_map]
   have e3 : n + 1 + (ks.map fun x => x.2.size).sum = n + t.size := oM
   rw [e3, e2, ← t.rows_kids] at hOW
   rw [List.take_length, e3]
   refine zS ?_
   refine ⟨_, rfl, ?_, ad3, cap3, rfl, hOW, kW, hfW⟩
   rcases Nat.eq_zero_or_pos t.depth with h0 | h0
   ·omega
   ·have := (t.depth_le (63 - above)).2 (fun k hk => by
     rw [← hks] at hk
     obtain ⟨y, hy, rfl⟩ := List.mem_map.1 hk
     have := hd y hy
     omega)
    by_cases hab : above ≤ 63
    ·omega
    ·exfalso
     obtain ⟨k, hk⟩ : ∃ k, k ∈ t.kids := by
      cases t with
      | n0 => simp [QT.depth] at h0
      | n1 _ _ _ a => exact ⟨a, by simp [QT.kids]⟩
      | n2 _ _ _ a b => exact ⟨a, by simp [QT.kids]⟩
     rw [← hks] at hk
     obtain ⟨y, hy, rfl⟩ := List.mem_map.1 hk
     have := hd y hy
     omega
end
end Go.Vc
namespace Go.Vc
open Go
variable {P : Program} {n : Nat} {e : Env} {w : World} {K : Jc0} {X : List (Nat × Jc0)} {R : Jc0} {all : List Oper} {G : List Nat} {ro : Ro} {ds : List Deferred}
abbrev Jp8 := Exit → Act → World → Prop
def WpQ (P : Program) (n : Nat) (ds : List Deferred) (c : Code) (Q : Jp8) (e : Env) (w : World) : Prop := ∀ a, Fit n ds a e → c.wpIn (FW Ro.no) 0 P Q a w
def OpsQ (P : Program) (n : Nat) (all : List Oper) (_G : List Nat) (ds : List Deferred) (Q : Jp8) (l : List Oper) (e : Env) (w : World) : Prop :=
 ∀ a, Fit n ds a e → wpListIn (FW Ro.no) 0 P all.toArray Q l a w
theorem t_seq {x y : Code} {Q : Jp8} {pan : Value → World → Prop} (h : Wp ⟨none, pan⟩ P n x (fun e w => WpQ P n ds y Q e w) [] R e w) (hR : ∀ a e w, Fit n ds a e → R e w → Q .ret a w)
  (hp : ∀ a v w, a.defers = ds → pan v w → Q (.panic [{ v, recovered := false }]) a w) : WpQ P n ds (.seq x y) Q e w := by
 intro a ha
 refine wpIn_seq (wpIn_mono (h ds a ha) ?_)
 intro x a w hq
 cases x with
 | normal => obtain ⟨e, hf, hk⟩ := hq; exact hk a hf
 | exit id => obtain ⟨J, e, hJ, _⟩ := hq; cases hJ
 | ret => obtain ⟨e, hf, hk⟩ := hq; exact hR _ _ _ hf hk
 | goto l => exact hq.elim
 | panic c => obtain ⟨v, rfl, hd, h⟩ := hq; exact hp _ _ _ hd h
 | outgrown => exact hq.elim
theorem t_of {x : Code} {Q : Jp8} {pan : Value → World → Prop} (h : Wp ⟨none, pan⟩ P n x K [] R e w) (hK : ∀ a e w, Fit n ds a e → K e w → Q .normal a w) (hR : ∀ a e w, Fit n ds a e → R e w → Q .ret a w)
  (hp : ∀ a v w, a.defers = ds → pan v w → Q (.panic [{ v, recovered := false }]) a w) : WpQ P n ds x Q e w := by
 intro a ha
 refine wpIn_mono (h ds a ha) ?_
 intro x a w hq
 cases x with
 | normal => obtain ⟨e, hf, hk⟩ := hq; exact hK _ _ _ hf hk
 | exit id => obtain ⟨J, e, hJ, _⟩ := hq; cases hJ
 | ret => obtain ⟨e, hf, hk⟩ := hq; exact hR _ _ _ hf hk
 | goto l => exact hq.elim
 | panic c => obtain ⟨v, rfl, hd, h⟩ := hq; exact hp _ _ _ hd h
 | outgrown => exact hq.elim
theorem t_seqD {id : Nat} {l : List Oper} {y : Code} {Q : Jp8} (h : OpsQ P n l [] ds (fun x a w => match x with | .normal => y.wpIn (FW Ro.no) 0 P Q a w | x => Q x a w) l e w) : WpQ P n ds (.seq (.region id l.toArray false) y) Q e w := by
 intro a ha
 refine wpIn_seq (wpIn_mono (wpIn_region_lit (h a ha)) ?_)
 intro x a w hq
 cases x <;> exact hq
theorem oq_nil {y : Code} {Q : Jp8} (h : WpQ P n ds y Q e w) : OpsQ P n all G ds (fun x a w => match x with | .normal => y.wpIn (FW Ro.no) 0 P Q a w | x => Q x a w) [] e w := fun a ha => wpListIn_nil (h a ha)
def thenQ (P : Program) (y : Code) (Q : Jp8) : Jp8 := fun x a w => match x with | .normal => y.wpIn (FW Ro.no) 0 P Q a w | x => Q x a w
theorem t_then {x y : Code} {Q : Jp8} (h : WpQ P n ds x (thenQ P y Q) e w) : WpQ P n ds (.seq x y) Q e w := by
 intro a ha
 refine wpIn_seq (wpIn_mono (h a ha) ?_)
 intro x a w hq
 cases x <;> exact hq
theorem Jx6 {id : Nat} {l : List Oper} {Q : Jp8} (h : OpsQ P n l [] ds Q l e w) : WpQ P n ds (.region id l.toArray false) Q e w := fun a ha => wpIn_region_lit (h a ha)
theorem t_cond {c : Operand} {x y : Code} {b : Bool} {Q : Jp8} (hc : ev e c = .bool b) (ht : b = true → WpQ P n ds x Q e w) (hf : b = false → WpQ P n ds y Q e w) : WpQ P n ds (.cond c x y) Q e w := by
 intro a ha
 refine wpIn_cond_split (t := b) (by rw [ha.eval]; exact hc) (fun h => ht h a ha) (fun h => hf h a ha)
theorem t_skip {y : Code} {Q : Jp8} (h : WpQ P n ds y Q e w) : WpQ P n ds .skip (thenQ P y Q) e w := fun a ha => wpIn_skip (h a ha)
theorem oq_then {y : Code} {Q : Jp8} (h : WpQ P n ds y Q e w) : OpsQ P n all G ds (thenQ P y Q) [] e w := fun a ha => wpListIn_nil (h a ha)
theorem oq_ops {l : List Oper} {Q : Jp8} (h : Ops Ro.no P n all G K l e w) (hK : ∀ a e w, Fit n ds a e → K e w → Q .normal a w) : OpsQ P n all G ds Q l e w := by
 intro a ha
 refine Jm4 ?_ _ _ _ (h [] (fun _ _ => False) ds a ha)
 intro x a w hq
 cases x with
 | normal => obtain ⟨e, hf, h⟩ := hq; exact hK _ _ _ hf h
 | exit i => obtain ⟨J, e, hJ, _⟩ := hq; cases hJ
 | ret => obtain ⟨e, hf, h⟩ := hq; exact h.elim
 | goto l => exact hq.elim
 | panic c => obtain ⟨v, _, _, h⟩ := hq; exact h.elim
 | outgrown => exact hq.elim
theorem oq_callvP {dst : Option Tmp} {ty : TypeId} {pos : String} {after : Array Edge} {l : List Oper} {f : FuncId} {first cap : Array Value} {fo : Operand} {args : Array Operand} {ts : Array TypeId} {vs : List Value} {R E : Value → World → Prop} {Q : Jp8}
  (h : RetP P f vs w R E) (hf : ev e fo = .func (.func f) first cap) (ha : first.toList ++ args.toList.map (ev e) ++ cap.toList = vs) (hd : dOk n dst = true) (hE : ∀ a v w', Fit n ds a e → E v w' → Q (.panic [{ v, recovered := false }]) a w')
  (k : ∀ v w', R v w' → OpsQ P n all G ds Q l (put e dst v) w') : OpsQ P n all G ds Q (⟨dst, .call ⟨.value fo, args, ts⟩, ty, pos, after, none⟩ :: l) e w := by
 intro a hfit
 unfold wpListIn
 rw [if_pos (Jd0 (o := ⟨dst, .call ⟨.value fo, args, ts⟩, ty, pos, after, none⟩) (G := []) hfit rfl)]
 unfold Oper.wpIn
 refine ⟨fun _ _ => trivial, ?_⟩
 rw [hfit.eval]
 show Oper.uponIn _ _ _ _ _ _ _ ((Oper.semAt Ro.no.round (ev e) ⟨dst, .call ⟨.value fo, args, ts⟩, ty, pos, after, none⟩).run P w)
 rw [Jk9 (Jx5 (o := ⟨dst, .call ⟨.value fo, args, ts⟩, ty, pos, after, none⟩) rfl hf ha h.1) (by intro d hd; cases hd)]
 refine ⟨(fun h => by cases h), callsFW (h.2.mono ?_)⟩
 rintro x w' (⟨v, rfl, r⟩ | ⟨v, rfl, r⟩)
 ·exact k v w' r _ (hfit.put _ _ hd)
 ·exact hE a v w' hfit r
theorem Jy8 {dst : Option Tmp} {ty : TypeId} {pos : String} {after : Array Edge} {l : List Oper} {f : FuncId} {args : Array Operand} {ts : Array TypeId} {vs : List Value} {R E : Value → World → Prop} {Q : Jp8}
  (h : RetP P f vs w R E) (ha : args.toList.map (ev e) = vs) (hd : dOk n dst = true) (hE : ∀ a v w', Fit n ds a e → E v w' → Q (.panic [{ v, recovered := false }]) a w')
  (k : ∀ v w', R v w' → OpsQ P n all G ds Q l (put e dst v) w') : OpsQ P n all G ds Q (⟨dst, .call ⟨.value (.func f), args, ts⟩, ty, pos, after, none⟩ :: l) e w :=
 oq_callvP (first := #[]) (cap := #[]) h rfl (by simpa using ha) hd hE k
theorem oq_does {o : Oper} {l : List Oper} {v : Value} {w' : World} {Q : Jp8} (hd : dOk n o.dst = true) (hm : may all G e o.guard = some true)
  (h : (execOp (ev e) o).run P w = .ok (.value v) w') (k : OpsQ P n all G ds Q l (put e o.dst v) w') : OpsQ P n all G ds Q (o :: l) e w := by
 intro a ha
 unfold wpListIn
 rw [if_pos (Jd0 ha hm)]
 unfold Oper.wpIn
 refine ⟨fun _ _ => trivial, ?_⟩
 have h' := Jk9 (ro := Ro.no) h (by intro d hd; cases hd)
 rw [ha.eval]
 show o.uponIn _ _ _ _ _ _ ((o.semAt Ro.no.round (ev e)).run P w)
 rw [h']
 exact k _ (ha.put _ _ hd)
theorem Ju5 {dst : Option Tmp} {op : Op} {ty : TypeId} {pos : String} {after : Array Edge} {l : List Oper} {v : Value} {Q : Jp8} (hp : Jr2 P e op = some (none, v)) (hd : dOk n dst = true)
  (k : OpsQ P n all G ds Q l (put e dst v) w) : OpsQ P n all G ds Q (⟨dst, op, ty, pos, after, none⟩ :: l) e w :=
 oq_does (o := ⟨dst, op, ty, pos, after, none⟩) hd rfl (Jf1 hp trivial) k
theorem oq_defer {dst : Option Tmp} {ty : TypeId} {pos : String} {after : Array Edge} {l : List Oper} {f : FuncId} {cap : Array Value} {fo : Operand} {ts : Array TypeId} {Q : Jp8}
  (hf : ev e fo = .func (.func f) #[] cap) (hd : dOk n dst = true)
  (k : OpsQ P n all G (⟨.fn (.func f) cap, #[]⟩ :: ds) Q l (put e dst undef) w) : OpsQ P n all G ds Q (⟨dst, .defer ⟨.value fo, #[], ts⟩, ty, pos, after, none⟩ :: l) e w := by
 intro a ha
 unfold wpListIn
 rw [if_pos (Jd0 (o := ⟨dst, .defer ⟨.value fo, #[], ts⟩, ty, pos, after, none⟩) (G := []) ha rfl)]
 unfold Oper.wpIn
 refine ⟨fun _ _ => trivial, ?_⟩
 rw [ha.eval]
 show Oper.uponIn _ _ _ _ _ _ _ ((Oper.semAt Ro.no.round (ev e) ⟨dst, .defer ⟨.value fo, #[], ts⟩, ty, pos, after, none⟩).run P w)
 have h1 : (Oper.semAt Ro.no.round (ev e) ⟨dst, .defer ⟨.value fo, #[], ts⟩, ty, pos, after, none⟩).run P w = .ok (.defer ⟨.fn (.func f) cap, #[]⟩) w := by
  show (execOp (ev e) ⟨dst, .defer ⟨.value fo, #[], ts⟩, ty, pos, after, none⟩).run P w = _
  simp [execOp, resolve, Sem.run_bind, hf, Deferred.ofValue]
 rw [h1]
 have hfit : Fit n (⟨.fn (.func f) cap, #[]⟩ :: ds) { a with defers := ⟨.fn (.func f) cap, #[]⟩ :: a.defers } e := ⟨ha.size, ha.get, by rw [← ha.defers]⟩
 exact k _ (hfit.put _ _ hd)
def Goes (P : Program) (fn : Func) (tmps : Array Value) (R E : Value → World → Prop) : List Deferred → FrameMode → World → Prop :=
 LeavesIn (FW Ro.no) 0 P fn tmps (fun x w' => (∃ v, x = .returned v ∧ R v w') ∨ ∃ v, x = .panicked [{ v, recovered := false }] ∧ E v w')
def bodyP (P : Program) (fn : Func) (R E : Value → World → Prop) : Jp8 :=
 bodyPostDIn (FW Ro.no) 0 P fn (fun x w' => (∃ v, x = .returned v ∧ R v w') ∨ ∃ v, x = .panicked [{ v, recovered := false }] ∧ E v w')
theorem enterD {f : FuncId} {fn : Func} {c : Code} {vs : List Value} {R E : Value → World → Prop} (hE : Jl8 P f) (hf : P.funcs[f]? = some fn) (hb : fn.body = some c) (hn : fn.ntmps = n) (hl : Nat.ble vs.length n = true)
  (h : WpQ P n [] c (bodyP P fn R E) (nth vs) w) : RetP P f vs w R E := by
 refine ⟨hE, Qe1 (callsIn_of_wp_defers (n := 0) hf hb trivial ?_)⟩
 rw [hn]
 exact h _ (Jp5 vs n (Nat.le_of_ble_eq_true hl))
def DRet (P : Program) (f : FuncId) (vs : List Value) (u : FrameMode) (w : World) (R : FrameMode → World → Prop) : Prop :=
 Jl8 P f ∧ CallsDIn (FW Ro.no) 0 P f ⟨vs⟩ u w (fun x u' w' => (∃ v, x = .returned v) ∧ R u' w')
theorem DRet.mono {f : FuncId} {vs : List Value} {u : FrameMode} {R R' : FrameMode → World → Prop} (h : DRet P f vs u w R) (hr : ∀ u' w', R u' w' → R' u' w') : DRet P f vs u w R' := ⟨h.1, h.2.mono fun _ _ _ ⟨h1, h2⟩ => ⟨h1, hr _ _ h2⟩⟩
theorem Jt2 {fn : Func} {tmps : Array Value} {R E : Value → World → Prop} {f : FuncId} {cap : List Value} {u : FrameMode} {ds : List Deferred} (hu : u ≠ .run) (h : DRet P f cap u w (fun u' w' => Goes P fn tmps R E ds (settle u') w')) :
  Goes P fn tmps R E (⟨.fn (.func f) ⟨cap⟩, #[]⟩ :: ds) u w := by
 refine leavesIn_cons (f := f) (args := ⟨cap⟩) hu (fun h => by cases h) ?_ (fun _ _ => trivial) (h.2.mono ?_)
 ·show (invoke (.fn (.func f) ⟨cap⟩) #[]).run P w = _
  have := h.1 ⟨cap⟩ w
  simpa [invoke] using this
 ·rintro x u' w' ⟨⟨v, rfl⟩, h⟩
  exact h
theorem Jt3 {fn : Func} {a : Act} {R E : Value → World → Prop} {rs : List ResultVar} {us : List Value} (hr : fn.results = ⟨rs⟩) (hf : Fit n ds a e) (h : resC P e w rs us) (hR : R (tupV us) w) : Goes P fn a.tmps R E [] .returning w :=
 ⟨_, Js0 hr hf h, .inl ⟨_, rfl, hR⟩⟩
theorem goes_pan {fn : Func} {tmps : Array Value} {R E : Value → World → Prop} {v : Value} (h : E v w) : Goes P fn tmps R E [] (.panicking [{ v, recovered := false }]) w := .inr ⟨_, rfl, h⟩
theorem enterDf {f : FuncId} {fn : Func} {c : Code} {vs : List Value} {u : FrameMode} {R : World → Prop} (hE : Jl8 P f) (hf : P.funcs[f]? = some fn) (hb : fn.body = some c) (hn : fn.ntmps = n) (hr : fn.results = ⟨[]⟩)
  (hl : Nat.ble vs.length n = true) (h : Wp Ro.no P n c (fun _ w => R w) [] (fun _ w => R w) (nth vs) w) : DRet P f vs u w (fun u' w' => u' = u ∧ R w') := by
 refine ⟨hE, (callsDIn_of_wp (R := fun x w' => (∃ v, x = .returned v) ∧ R w') hf hb trivial ?_).mono ?_⟩
 ·rw [hn]
  refine wpIn_mono (h [] _ (Jp5 vs n (Nat.le_of_ble_eq_true hl))) ?_
  intro x a w hq
  cases x with
  | normal => obtain ⟨e, hfit, hR⟩ := hq; exact ⟨hfit.defers, _, Jf3 hr hfit rfl, ⟨_, rfl⟩, hR⟩
  | ret => obtain ⟨e, hfit, hR⟩ := hq; exact ⟨hfit.defers, _, Jf3 hr hfit rfl, ⟨_, rfl⟩, hR⟩
  | exit id => obtain ⟨J, e, hJ, _⟩ := hq; cases hJ
  | goto l => exact hq.elim
  | panic c => obtain ⟨v, _, _, h⟩ := hq; exact h.elim
  | outgrown => exact hq.elim
 ·rintro x u' w' ⟨h1, h2, h3⟩
  exact ⟨h2, h1, h3⟩
theorem o_neqNN {dst : Option Tmp} {ty : TypeId} {pos : String} {after : Array Edge} {g : Option (Nat × Bool)} {l : List Oper} {t yt : TypeId} {x : Operand} (hx : ev e x = .nilIface) (hu : P.underlying t = some (.interface (P.methodsAt t))) (hd : dOk n dst = true) (hm : may all G e g = some true)
  (k : Ops ro P n all G K l (put e dst (.bool false)) w) : Ops ro P n all G K (⟨dst, .binOp .neq t x (.const .nilIface) yt, ty, pos, after, g⟩ :: l) e w := by
 refine Jb5 hd hm ?_ k
 have h1 : (eqGuard .neq t x (.const .nilIface) .nilIface .nilIface).run P w = .ok () w := by
  cases x <;> rfl
 have hy : ev e (.const .nilIface) = .nilIface := rfl
 simp only [execOp, Sem.run_bind, hx, hy, h1, Result.andThen_ok, run_neq_nil_nil w t hu, Sem.run_pure]
theorem Qd8 {all : List Oper} {e' : Env} {Q : Exit → Act → List Frame → World → Prop} {fs : List Frame} : ∀ (l : List Oper) (i : Nat) (e : Env) (a : Act), all.drop i = l → Fit n ds a e → runP P n all [] l [] e = ([], e', []) →
  (∀ a', Fit n ds a' e' → Q .normal a' fs w) → wpOpsSIn (FW Ro.no) 0 P all.toArray Q (List.range' i l.length) a fs w
 | [], i, e, a, _, hf, hr, hQ => by
  simp only [runP, Prod.mk.injEq, and_true, true_and] at hr
  subst hr
  exact hQ a hf
 | ⟨dst, op, ty, pos, after, guard⟩ :: l, i, e, a, hi, hf, hr, hQ => by
  have h0 : all.toArray[i]? = some ⟨dst, op, ty, pos, after, guard⟩ := by
   have : all[i]? = some ⟨dst, op, ty, pos, after, guard⟩ := by rw [← List.head?_drop, hi]; rfl
   simpa using this
  have hnext : all.drop (i + 1) = l := by rw [← List.drop_drop, hi]; rfl
  simp only [List.length_cons, List.range'_succ]
  unfold wpOpsSIn
  simp only [h0]
  refine ⟨fun _ _ => trivial, ?_⟩
  rw [runP] at hr
  cases hd : dOk n dst with
  | false => rw [hd] at hr; simp at hr
  | true =>
   rw [hd] at hr
   cases hm : may all [] e guard with
   | none => rw [hm] at hr; simp at hr
   | some m =>
    rw [hm] at hr
    cases m with
    | false =>
     rw [if_neg (by rw [Jd0 (o := ⟨dst, op, ty, pos, after, guard⟩) hf hm]; simp)]
     exact Qd8 l (i + 1) _ _ hnext (hf.put _ _ hd) hr hQ
    | true =>
     rw [if_pos (Jd0 (o := ⟨dst, op, ty, pos, after, guard⟩) hf hm)]
     dsimp only at hr
     cases hp : Jr2 P e op with
     | none => rw [hp] at hr; simp at hr
     | some r =>
      obtain ⟨c, v⟩ := r
      rw [hp] at hr
      cases c with
      | some c =>
       exfalso
       have hl : ∀ (l : List Oper) (cs : List Prop) (e : Env), cs.length ≤ (runP P n all [] l cs e).1.length := by
        intro l
        induction l with
        | nil => intro cs e; exact lR
        | cons o l ih =>
         intro cs e
         obtain ⟨dst, op, ty, pos, after, guard⟩ := o
         rw [runP]
         split
         ·split
          ·exact ih _ _
          ·exact Nat.le_trans sI (ih _ _)
          ·exact lR
         ·exact ih _ _
         ·exact lR
       have := hl l [c] (put e dst v)
       dsimp only at hr
       rw [hr] at this
       simp at this
      | none =>
       rw [hf.eval, Jf1 (o := ⟨dst, op, ty, pos, after, guard⟩) hp trivial]
       exact Qd8 l (i + 1) _ _ hnext (hf.put _ _ hd) hr hQ
def rVal : Option Value → Value
 | some v => v
 | none => .nilIface
def rIn : Option Value → FrameMode
 | some v => .panicking [{ v, recovered := false }]
 | none => .returning
def rOut : Option Value → FrameMode
 | some v => .panicking [{ v, recovered := true }]
 | none => .returning
theorem enterS {f : FuncId} {fn : Func} {id : Nat} {dst : Option Tmp} {ty : TypeId} {pos : String} {after : Array Edge} {l : List Oper} {y : Code} {vs : List Value} {R : World → Prop} {e' : Env} (v : Option Value) (hE : Jl8 P f) (hf : P.funcs[f]? = some fn)
  (hb : fn.body = some (.seq (.region id (⟨dst, .call ⟨.builtin .recover, #[], #[]⟩, ty, pos, after, none⟩ :: l).toArray false) y)) (hn : fn.ntmps = n) (hr : fn.results = ⟨[]⟩) (hl : Nat.ble vs.length n = true) (hd : dOk n dst = true)
  (hrun : runP P n (⟨dst, .call ⟨.builtin .recover, #[], #[]⟩, ty, pos, after, none⟩ :: l) [] l [] (put (nth vs) dst (rVal v)) = ([], e', []))
  (h : Wp Ro.no P n y (fun _ w => R w) [] (fun _ w => R w) e' w) :
  DRet P f vs (rIn v) w (fun u' w' => (u' = rOut v) ∧ R w') := by
 refine ⟨hE, callsDIn_of_wpSIn hf hb trivial ?_⟩
 intro c₀ cs hu
 rw [hn]
 have hfit := Jp5 vs n (Nat.le_of_ble_eq_true hl)
 refine wpSIn_seq (wpSIn_region ?_)
 have hsz : (⟨dst, .call ⟨.builtin .recover, #[], #[]⟩, ty, pos, after, none⟩ :: l).toArray.size = l.length + 1 := sI
 rw [hsz, List.range_eq_range', List.range'_succ]
 unfold wpOpsSIn
 have h0 : (⟨dst, .call ⟨.builtin .recover, #[], #[]⟩, ty, pos, after, none⟩ :: l).toArray[0]? = some (⟨dst, .call ⟨.builtin .recover, #[], #[]⟩, ty, pos, after, none⟩ : Oper) := sI
 simp only [h0]
 refine ⟨fun _ _ => trivial, ?_⟩
 rw [if_pos (Jd0 (o := ⟨dst, .call ⟨.builtin .recover, #[], #[]⟩, ty, pos, after, none⟩) (G := []) hfit rfl)]
 have hx : ∀ ρ : Operand → Value, (execOp ρ ⟨dst, .call ⟨.builtin .recover, #[], #[]⟩, ty, pos, after, none⟩).run P w = .ok .recover w := fun ρ => rfl
 rw [hx]
 have fin : ∀ (u' : FrameMode) (a' : Act), u' = (rOut v) → Fit n [] a' e' → Exit.thenS (y.wpSIn (FW Ro.no) 0 P (bodyPostS P fn c₀ cs fun x u' w' => (∃ v, x = .returned v) ∧ (u' = rOut v) ∧ R w')) (bodyPostS P fn c₀ cs fun x u' w' => (∃ v, x = .returned v) ∧ (u' = rOut v) ∧ R w') .normal a' ({ c₀ with mode := u' } :: cs) w := by
  intro u' a' hu' hf'
  refine wpSIn_of_wpIn rfl (wpIn_mono (h [] a' hf') ?_)
  intro x a w hq
  cases x with
  | normal => obtain ⟨e, hfit, hR⟩ := hq; exact ⟨hfit.defers, u', rfl, _, Jf3 hr hfit rfl, ⟨_, rfl⟩, hu', hR⟩
  | ret => obtain ⟨e, hfit, hR⟩ := hq; exact ⟨hfit.defers, u', rfl, _, Jf3 hr hfit rfl, ⟨_, rfl⟩, hu', hR⟩
  | exit id => obtain ⟨J, e, hJ, _⟩ := hq; cases hJ
  | goto l => exact hq.elim
  | panic c => obtain ⟨v, _, _, h⟩ := hq; exact h.elim
  | outgrown => exact hq.elim
 cases v with
 | none =>
  have hrec : recoverD (c₀ :: cs) = none := by simp only [recoverD, hu, rIn]
  rw [hrec]
  have hc : c₀ = { c₀ with mode := .returning } := by
   have hu : c₀.mode = .returning := hu
   rw [← hu]
  dsimp only
  refine Qd8 (e' := e') l 1 _ _ rfl (hfit.put _ _ hd) hrun ?_
  intro a' hf'
  have := fin .returning a' rfl hf'
  rw [← hc] at this
  exact this
 | some v =>
  have hrec : recoverD (c₀ :: cs) = some (v, { c₀ with mode := .panicking [{ v, recovered := true }] } :: cs) := by simp only [recoverD, hu, rIn]
  rw [hrec]
  dsimp only
  refine Qd8 (e' := e') l 1 _ _ rfl (hfit.put _ _ hd) hrun ?_
  intro a' hf'
  exact fin _ a' rfl hf'
end Go.Vc

