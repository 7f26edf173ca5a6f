/- Regions that draw their order: a theorem by which one looks at each operation once, in every later world.
   Nothing of a program stands here. -/
import Derived.WalkKit
import Derived.BigQuiet
import Derived.StillTail
set_option linter.unusedVariables false
set_option linter.unusedSimpArgs false
namespace Go.Par
open Go.RowKit

/-- Everything that was there is as it was. -/
def Ext (w w' : World) : Prop := Below w.heap.size w w'
theorem Ext.refl (w : World) : Ext w w := Below.refl _ _
theorem Ext.trans {a b c : World} (h : Ext a b) (k : Ext b c) : Ext a c := Below.trans h (Below.mono k (Below.size h))
theorem Ext.size {w w' : World} (h : Ext w w') : w.heap.size ≤ w'.heap.size := Below.size h
theorem lt_of_cell {w : World} {a : Addr} {v : Value} (h : w.cell? a = some v) : a.block < w.heap.size := by
  rcases Nat.lt_or_ge a.block w.heap.size with h' | h'
  · exact h'
  · unfold World.cell? at h; rw [Array.getElem?_eq_none h'] at h; cases h
theorem Ext.cell {w w' : World} (h : Ext w w') {a : Addr} {v : Value} (hc : w.cell? a = some v) : w'.cell? a = some v :=
  (Below.cell h (lt_of_cell hc)).trans hc
theorem Ext.frozen {w w' : World} (h : Ext w w') {a : Addr} {v : Value} (hc : w.cell? a = some v) (hf : w.frozen? a = false) : w'.frozen? a = false :=
  (Below.frozen h (lt_of_cell hc)).trans hf
theorem Ext.drew (w : World) : Ext w w.drew := Below.drew (Below.refl _ _)
theorem Ext.alloc (w : World) (o : Obj) : Ext w (w.alloc o) := Below.alloc (Below.refl _ _) (Nat.le_refl _) o

structure Later (w : World) where
  val : World
  prop : Ext w val
def LaterC (w0 : World) (w : World) : Prop := ∃ x : Later w0, w = x.val
theorem LaterC.iff {w0 w : World} : LaterC w0 w ↔ Ext w0 w := ⟨fun ⟨x, h⟩ => h ▸ x.prop, fun h => ⟨⟨w, h⟩, rfl⟩⟩
theorem Later.cell {w : World} (x : Later w) {a : Addr} {v : Value} (h : w.cell? a = some v) : x.val.cell? a = some v := x.prop.cell h

abbrev VP := Value → World → Prop
inductive SP where
  | val (c : Value)
  | rel (R : VP) (fresh : Bool)
def SP.holds : SP → Value → World → Prop
  | .val c, v, _ => v = c
  | .rel R _, v, w => R v w
def SP.fresh : SP → Bool
  | .val _ => false
  | .rel _ b => b
def blockOf : Value → Option Nat
  | .pointer (some a) => some a.block
  | .slice (some a) _ _ => some a.block
  | .map (some b) => some b
  | _ => none
/-- a value that lies in a block just made -/
def SP.born (S : SP) (u : Value) (w w' : World) : Prop := S.fresh = true → ∃ b, blockOf u = some b ∧ w.heap.size ≤ b ∧ b < w'.heap.size
def Stable (R : VP) : Prop := ∀ v w w', R v w → Ext w w' → R v w'
def SP.stable : SP → Prop
  | .val _ => True
  | .rel R _ => Stable R
theorem SP.holds_ext {S : SP} (hs : S.stable) {v : Value} {w w' : World} (h : S.holds v w) (he : Ext w w') : S.holds v w' := by
  cases S with
  | val c => exact h
  | rel R _ => exact hs _ _ _ h he

/-- what is asked of a call: it hands back a value as S says; all that was there is as it was -/
def PostS (w : World) (S : SP) (e : Ending) (w'' : World) : Prop := ∃ v, e = .returned v ∧ Ext w w'' ∧ S.holds v w''
def relUpon (P : Program) (w1 : World) (S : SP) : Result Next → Prop
  | .ok (.value u) w' => Ext w1 w' ∧ S.holds u w' ∧ S.born u w1 w'
  | .ok .skip w' => Ext w1 w' ∧ S.holds undef w' ∧ S.fresh = false
  | .ok (.enter f args) w' => Ext w1 w' ∧ S.fresh = false ∧ Calls P f args w' (PostS w' S)
  | _ => False
def relStep (P : Program) (ops : Array Oper) (o : Oper) (S : SP) (w1 : World) (a : Act) : Prop :=
  if Region.wanted o (yielded ops a.tmps) then relUpon P w1 S ((execOp a.eval o).run P w1) else S.holds undef w1 ∧ S.fresh = false

abbrev Rel := Nat × Tmp × VP × Bool
def Giv (bits : Nat → Prop) (w1 : World) (G : Act → Prop) : List Rel → Act → Prop
  | [], a => G a
  | r :: rest, a => ∀ v, (bits r.1 → r.2.2.1 v w1) → Giv bits w1 G rest (a.put (some r.2.1) v)
/-- at the end: all of them; what lies in new blocks lies in different ones -/
def GivF (w1 : World) (G : Act → Prop) : List Rel → List Value → Act → Prop
  | [], acc, a => acc.Pairwise (fun u v => blockOf u ≠ blockOf v) → G a
  | r :: rest, acc, a => ∀ v, r.2.2.1 v w1 → GivF w1 G rest (if r.2.2.2 then acc ++ [v] else acc) (a.put (some r.2.1) v)
def clean (ops : Array Oper) (o : Oper) (rels : List Rel) : Bool :=
  rels.all fun r => !(o.looksAt ops).contains r.2.1

def ParW (P : Program) (ops : Array Oper) (bf : Array Nat) (w0 : World) (F : Act → World → Prop) : List Oper → Nat → List Rel → Act → Prop
  | [], _, rels, a => ∀ w1, Ext w0 w1 → GivF w1 (fun a' => F a' w1) rels [] a
  | o :: os, k, rels, a =>
    (clean ops o rels = true ∧ ∃ c, (∀ x : Later w0, relStep P ops o (.val c) x.val a) ∧ ParW P ops bf w0 F os (k + 1) rels (a.put o.dst c)) ∨
    (∃ c, (∀ w1, Ext w0 w1 → Giv (fun j => (bf.getD k 0).testBit j = true) w1 (relStep P ops o (.val c) w1) rels a) ∧ ParW P ops bf w0 F os (k + 1) rels (a.put o.dst c)) ∨
    (∃ d R fr, o.dst = some d ∧ Stable R ∧ (∀ w1, Ext w0 w1 → Giv (fun j => (bf.getD k 0).testBit j = true) w1 (relStep P ops o (.rel R fr) w1) rels a) ∧ ParW P ops bf w0 F os (k + 1) (rels ++ [(k, d, R, fr)]) a)

/-! the check -/
def dstOf (ops : Array Oper) (i : Nat) : Option Tmp := (ops[i]?).bind (·.dst)
def parOp (ops : Array Oper) (n : Nat) (bf : Array Nat) (i : Nat) (o : Oper) : Bool :=
  o.after.all (fun e => !Region.binds .any e || decide (e.on < i)) &&
  (List.range i).all (fun j => !(bf.getD i 0).testBit j || o.after.any (fun e => Region.binds .any e && (e.on == j || (decide (j < e.on) && (bf.getD e.on 0).testBit j)))) &&
  (if i < n then
    (o.looksAt ops).all (fun t => (List.range n).all fun j => dstOf ops j != some t || (decide (j < i) && (bf.getD i 0).testBit j)) &&
    (match o.dst with | some d => (List.range i).all fun j => dstOf ops j != some d | none => true)
   else (List.range i).all fun j => (bf.getD i 0).testBit j)
def parB (ops : Array Oper) (n : Nat) (bf : Array Nat) : Bool :=
  Region.noSelect ops && decide (n ≤ ops.size) &&
  (List.range ops.size).all (fun i => match ops[i]? with | some o => parOp ops n bf i o | none => true) &&
  Region.seqB .any ops (ops.size - n) n ((List.replicate n true ++ List.replicate (ops.size - n) false).toArray)
def dstsIn (ops : List Oper) (sz : Nat) : Bool := ops.all fun o => match o.dst with | some d => decide (d < sz) | none => true

structure ParOk (ops : Array Oper) (n : Nat) (bf : Array Nat) : Prop where
  nosel : ∀ (j : Nat) (o : Oper) cs b, ops[j]? = some o → o.op ≠ .select cs b
  le : n ≤ ops.size
  back : ∀ (i : Nat) (o : Oper), ops[i]? = some o → ∀ e ∈ o.after, Region.binds .any e = true → e.on < i
  mask : ∀ (i : Nat) (o : Oper) (j : Nat), ops[i]? = some o → j < i → (bf.getD i 0).testBit j = true → ∃ e ∈ o.after, Region.binds .any e = true ∧ (e.on = j ∨ (j < e.on ∧ (bf.getD e.on 0).testBit j = true))
  looks : ∀ (i : Nat) (o : Oper) (t : Tmp) (j : Nat), i < n → ops[i]? = some o → t ∈ o.looksAt ops → j < n → dstOf ops j = some t → j < i ∧ (bf.getD i 0).testBit j = true
  dist : ∀ (i : Nat) (d : Tmp) (j : Nat), i < n → dstOf ops i = some d → j < i → dstOf ops j ≠ some d
  tail : ∀ (i j : Nat), n ≤ i → i < ops.size → j < i → (bf.getD i 0).testBit j = true
  seq : Region.seqB .any ops (ops.size - n) n ((List.replicate n true ++ List.replicate (ops.size - n) false).toArray) = true

theorem parOk_of {ops : Array Oper} {n : Nat} {bf : Array Nat} (h : parB ops n bf = true) : ParOk ops n bf := by
  simp only [parB, Bool.and_eq_true, decide_eq_true_eq, List.all_eq_true, List.mem_range] at h
  obtain ⟨⟨⟨h1, h2⟩, h3⟩, h4⟩ := h
  have key : ∀ (i : Nat) (o : Oper), ops[i]? = some o → parOp ops n bf i o = true := fun i o ho => by
    have := h3 i (Array.getElem?_eq_some_iff.1 ho).1
    rw [ho] at this
    exact this
  have key' := fun (i : Nat) (o : Oper) (ho : ops[i]? = some o) => by
    have := key i o ho
    simp only [parOp, Bool.and_eq_true, Array.all_eq_true_iff_forall_mem, decide_eq_true_eq, List.all_eq_true, List.mem_range, Bool.or_eq_true, Bool.not_eq_true'] at this
    exact this
  refine ⟨Region.noSelect_spec h1, h2, fun i o ho e he hb => ((key' i o ho).1.1 e he).resolve_left (by rw [hb]; simp), fun i o j ho hj hb => ?_, fun i o t j hi ho ht hj hd => ?_, fun i d j hi hd hj => ?_, fun i j hi hi' hj => ?_, h4⟩
  · have := (key' i o ho).1.2 j hj
    rw [hb] at this
    rcases this with this | this
    · cases this
    · obtain ⟨e, he, hb⟩ := Array.any_eq_true'.1 this
      simp only [Bool.and_eq_true, Bool.or_eq_true, beq_iff_eq, decide_eq_true_eq] at hb
      exact ⟨e, he, hb.1, hb.2⟩
  · have := (key' i o ho).2
    rw [if_pos hi] at this
    simp only [Bool.and_eq_true, List.all_eq_true, List.mem_range, Bool.or_eq_true, bne_iff_ne, decide_eq_true_eq] at this
    rcases this.1 t ht j hj with h | h
    · exact absurd hd h
    · exact h
  · have hlt : i < ops.size := by omega
    obtain ⟨o, ho⟩ : ∃ o, ops[i]? = some o := ⟨_, Array.getElem?_eq_getElem hlt⟩
    have := (key' i o ho).2
    rw [if_pos hi] at this
    have hod : o.dst = some d := by simpa [dstOf, ho] using hd
    rw [hod] at this
    simp only [Bool.and_eq_true, List.all_eq_true, List.mem_range, bne_iff_ne] at this
    exact this.2 j hj
  · obtain ⟨o, ho⟩ : ∃ o, ops[i]? = some o := ⟨_, Array.getElem?_eq_getElem hi'⟩
    have := (key' i o ho).2
    rw [if_neg (by omega)] at this
    simp only [List.all_eq_true, List.mem_range] at this
    exact this j hj

/-! frames -/
theorem eval_put_same {a : Act} {d : Tmp} {v : Value} (h : d < a.tmps.size) : (a.put (some d) v).eval (.tmp d) = v := by
  simp [Act.put, Act.eval, h]
theorem eval_put_ne {a : Act} {x : Option Tmp} {v : Value} {t : Tmp} (h : x ≠ some t) : (a.put x v).eval (.tmp t) = a.eval (.tmp t) :=
  Act.eval_put fun d hd e => h (by rw [hd]; injection e with e; rw [e])
theorem size_put (a : Act) (x : Option Tmp) (v : Value) : (a.put x v).tmps.size = a.tmps.size := by
  cases x <;> simp [Act.put]
theorem defers_put (a : Act) (x : Option Tmp) (v : Value) : (a.put x v).defers = a.defers := by cases x <;> rfl

def SameShape (a b : Act) : Prop := a.tmps.size = b.tmps.size ∧ a.defers = b.defers
theorem act_ext {a b : Act} (h : SameShape a b) (he : ∀ t, t < a.tmps.size → a.eval (.tmp t) = b.eval (.tmp t)) : a = b := by
  obtain ⟨ta, da⟩ := a
  obtain ⟨tb, db⟩ := b
  obtain ⟨h1, h2⟩ := h
  simp only at h1 h2
  subst h2
  congr 1
  refine Array.ext h1 fun i hi hi' => ?_
  have := he i hi
  simpa [Act.eval, hi, hi'] using this
theorem execOp_same {ops : Array Oper} {o : Oper} (hs : ∀ cs b, o.op ≠ .select cs b) {a b : Act} (hsz : a.tmps.size = b.tmps.size) (h : ∀ t ∈ o.looksAt ops, a.eval (.tmp t) = b.eval (.tmp t)) :
    execOp a.eval o = execOp b.eval o ∧ Region.wanted o (yielded ops a.tmps) = Region.wanted o (yielded ops b.tmps) := by
  constructor
  · refine execOp_congr o hs fun x hx => ?_
    cases x with
    | tmp t => exact h t (List.mem_append_left _ (List.mem_filterMap.2 ⟨.tmp t, by simpa using hx, rfl⟩))
    | _ => rfl
  · unfold Region.wanted
    cases hg : o.guard with
    | none => rfl
    | some gw =>
      obtain ⟨g, want⟩ := gw
      have hy : yielded ops a.tmps g = yielded ops b.tmps g := by
        unfold yielded
        cases ht : (ops[g]?).bind (·.dst) with
        | none => rfl
        | some t =>
          have h1 := h t (by simp [Oper.looksAt, hg, ht])
          simp only [Act.eval, Array.getD_eq_getD_getElem?] at h1
          simp only [Option.bind_some]
          rcases Nat.lt_or_ge t a.tmps.size with h2 | h2
          · have h3 : t < b.tmps.size := by rw [← hsz]; exact h2
            simp only [Array.getElem?_eq_getElem h2, Array.getElem?_eq_getElem h3, Option.getD_some] at h1 ⊢
            rw [h1]
          · rw [Array.getElem?_eq_none h2, Array.getElem?_eq_none (xs := b.tmps) (by rw [← hsz]; exact h2)]
      simp only [hy]
theorem relStep_same {P : Program} {ops : Array Oper} {o : Oper} (hs : ∀ cs b, o.op ≠ .select cs b) {S : SP} {w1 : World} {a b : Act} (hsz : a.tmps.size = b.tmps.size)
    (h : ∀ t ∈ o.looksAt ops, a.eval (.tmp t) = b.eval (.tmp t)) (hr : relStep P ops o S w1 a) : relStep P ops o S w1 b := by
  obtain ⟨h1, h2⟩ := execOp_same (ops := ops) hs hsz h
  unfold relStep at *
  rw [← h1, ← h2]
  exact hr

def putRels (f : Nat → Value) : List Rel → Act → Act
  | [], a => a
  | r :: rest, a => putRels f rest (a.put (some r.2.1) (f r.1))
theorem putRels_shape (f : Nat → Value) : ∀ (rels : List Rel) (a : Act), SameShape (putRels f rels a) a
  | [], _ => ⟨rfl, rfl⟩
  | r :: rest, a => ⟨(putRels_shape f rest _).1.trans (size_put _ _ _), (putRels_shape f rest _).2.trans (defers_put _ _ _)⟩
theorem giv_inst {bits : Nat → Prop} {w1 : World} {G : Act → Prop} (f : Nat → Value) : ∀ (rels : List Rel) (a : Act), (∀ r ∈ rels, bits r.1 → r.2.2.1 (f r.1) w1) → Giv bits w1 G rels a → G (putRels f rels a)
  | [], _, _, h => h
  | r :: rest, a, hf, h => giv_inst f rest _ (fun r' hr => hf r' (List.mem_cons_of_mem _ hr)) (h _ (hf r List.mem_cons_self))
theorem givF_inst {w1 : World} {G : Act → Prop} (f : Nat → Value) : ∀ (rels : List Rel) (acc : List Value) (a : Act), (∀ r ∈ rels, r.2.2.1 (f r.1) w1) →
    (acc ++ (rels.filter fun r => r.2.2.2).map fun r => f r.1).Pairwise (fun u v => blockOf u ≠ blockOf v) → GivF w1 G rels acc a → G (putRels f rels a)
  | [], acc, _, _, hp, h => h (by simpa using hp)
  | r :: rest, acc, a, hf, hp, h => by
    refine givF_inst f rest _ _ (fun r' hr => hf r' (List.mem_cons_of_mem _ hr)) ?_ (h _ (hf r List.mem_cons_self))
    cases hr : r.2.2.2 with
    | true => simpa [List.filter_cons, hr] using hp
    | false => simpa [List.filter_cons, hr] using hp
theorem putRels_ne (f : Nat → Value) {t : Tmp} : ∀ (rels : List Rel) (a : Act), (∀ r ∈ rels, r.2.1 ≠ t) → (putRels f rels a).eval (.tmp t) = a.eval (.tmp t)
  | [], _, _ => rfl
  | r :: rest, a, h => (putRels_ne f rest _ fun r' hr => h r' (List.mem_cons_of_mem _ hr)).trans (eval_put_ne fun e => h r List.mem_cons_self (Option.some.inj e))
/-- all entries that write t bear the number j -/
theorem putRels_eq (f : Nat → Value) {t : Tmp} {j : Nat} : ∀ (rels : List Rel) (a : Act), t < a.tmps.size → (∀ r ∈ rels, r.2.1 = t → r.1 = j) → (∃ r ∈ rels, r.2.1 = t) → (putRels f rels a).eval (.tmp t) = f j
  | [], _, _, _, ⟨_, h, _⟩ => by cases h
  | r :: rest, a, ht, hj, hex => by
    by_cases hin : ∃ r' ∈ rest, r'.2.1 = t
    · exact putRels_eq f rest _ (by rw [size_put]; exact ht) (fun r' hr => hj r' (List.mem_cons_of_mem _ hr)) hin
    · obtain ⟨r', hr', hd⟩ := hex
      have hrt : r.2.1 = t := by
        rcases List.mem_cons.1 hr' with rfl | h
        · exact hd
        · exact absurd ⟨r', h, hd⟩ hin
      rw [putRels, putRels_ne f rest _ (fun r'' h'' e => hin ⟨r'', h'', e⟩), hrt, eval_put_same ht, hj r List.mem_cons_self hrt]


/-! ## what the walk shows of each operation -/
section
variable {P : Program} {ops : Array Oper} {n : Nat} {bf : Array Nat} {w0 : World} {a0 : Act}
def OpOK (P : Program) (ops : Array Oper) (n : Nat) (bf : Array Nat) (w0 : World) (a0 : Act) (S : Nat → SP) (k : Nat) : Prop :=
  ∀ o, ops[k]? = some o → ∀ (a1 : Act) (w1 : World), Ext w0 w1 → a1.tmps.size = a0.tmps.size →
    (∀ j d, j < k → (bf.getD k 0).testBit j = true → dstOf ops j = some d → (S j).holds (a1.eval (.tmp d)) w1) →
    (∀ t, t ∈ o.looksAt ops → (∀ j, j < n → dstOf ops j ≠ some t) → a1.eval (.tmp t) = a0.eval (.tmp t)) → relStep P ops o (S k) w1 a1
structure WInv (ops : Array Oper) (a0 : Act) (S : Nat → SP) (k : Nat) (rels : List Rel) (a : Act) : Prop where
  shape : SameShape a a0
  other : ∀ t, (∀ j, j < k → dstOf ops j ≠ some t) → a.eval (.tmp t) = a0.eval (.tmp t)
  vals : ∀ j c d, j < k → S j = .val c → dstOf ops j = some d → a.eval (.tmp d) = c
  have_ : ∀ j R fr d, j < k → S j = .rel R fr → dstOf ops j = some d → (j, d, R, fr) ∈ rels
  only : ∀ r, r ∈ rels → r.1 < k ∧ dstOf ops r.1 = some r.2.1 ∧ S r.1 = .rel r.2.2.1 r.2.2.2
  sorted : rels.Pairwise fun r s => r.1 < s.1
def FinOK (ops : Array Oper) (n : Nat) (w0 : World) (a0 : Act) (F : Act → World → Prop) (S : Nat → SP) : Prop :=
  ∀ (a1 : Act) (w1 : World), Ext w0 w1 → SameShape a1 a0 → (∀ j d, j < n → dstOf ops j = some d → (S j).holds (a1.eval (.tmp d)) w1) →
    (∀ i j di dj, i < n → j < n → i ≠ j → dstOf ops i = some di → dstOf ops j = some dj → (S i).fresh = true → (S j).fresh = true → blockOf (a1.eval (.tmp di)) ≠ blockOf (a1.eval (.tmp dj))) →
    (∀ t, (∀ j, j < n → dstOf ops j ≠ some t) → a1.eval (.tmp t) = a0.eval (.tmp t)) → F a1 w1

/-- the value that slot d of operation j has in a1 -/
def pick (ops : Array Oper) (a1 : Act) (j : Nat) : Value := match dstOf ops j with | some d => a1.eval (.tmp d) | none => undef
theorem pick_eq {a1 : Act} {j : Nat} {d : Tmp} (h : dstOf ops j = some d) : pick ops a1 j = a1.eval (.tmp d) := by simp [pick, h]

theorem WInv.put_val {S : Nat → SP} {k : Nat} {rels : List Rel} {a : Act} (h : WInv ops a0 S k rels a) {o : Oper} (ho : ops[k]? = some o) {c : Value} (hS : S k = .val c)
    (hd : ∀ d j, dstOf ops k = some d → j < k → dstOf ops j ≠ some d) (hsz : ∀ d, dstOf ops k = some d → d < a0.tmps.size) : WInv ops a0 S (k + 1) rels (a.put o.dst c) := by
  have hdk : dstOf ops k = o.dst := by simp [dstOf, ho]
  refine ⟨⟨(size_put _ _ _).trans h.shape.1, (defers_put _ _ _).trans h.shape.2⟩, fun t ht => ?_, fun j c' d hj hSj hdj => ?_, fun j R fr d hj hSj hdj => ?_, fun r hr => ?_, h.sorted⟩
  · rw [eval_put_ne (by rw [← hdk]; exact ht k (by omega))]
    exact h.other t fun j hj => ht j (by omega)
  · by_cases hjk : j = k
    · subst hjk
      rw [hS] at hSj
      injection hSj with hSj
      rw [← hdk, hdj, eval_put_same (by rw [h.shape.1]; exact hsz d hdj), hSj]
    · rw [eval_put_ne (by rw [← hdk]; exact fun e => hd d j e (by omega) hdj)]
      exact h.vals j c' d (by omega) hSj hdj
  · by_cases hjk : j = k
    · subst hjk; rw [hS] at hSj; cases hSj
    · exact h.have_ j R fr d (by omega) hSj hdj
  · obtain ⟨h1, h2⟩ := h.only r hr
    exact ⟨by omega, h2⟩
theorem WInv.put_rel {S : Nat → SP} {k : Nat} {rels : List Rel} {a : Act} (h : WInv ops a0 S k rels a) {d0 : Tmp} (hdk : dstOf ops k = some d0) {R : VP} {fr : Bool} (hS : S k = .rel R fr) :
    WInv ops a0 S (k + 1) (rels ++ [(k, d0, R, fr)]) a := by
  refine ⟨h.shape, fun t ht => h.other t fun j hj => ht j (by omega), fun j c' d hj hSj hdj => ?_, fun j R' fr' d hj hSj hdj => ?_, fun r hr => ?_, ?_⟩
  · by_cases hjk : j = k
    · subst hjk; rw [hS] at hSj; cases hSj
    · exact h.vals j c' d (by omega) hSj hdj
  · by_cases hjk : j = k
    · subst hjk
      rw [hS] at hSj
      injection hSj with hSj hSf
      rw [List.mem_append]
      refine .inr ?_
      rw [hdk] at hdj
      injection hdj with hdj
      rw [hSj, hSf, hdj]
      exact List.mem_singleton.2 rfl
    · exact List.mem_append_left _ (h.have_ j R' fr' d (by omega) hSj hdj)
  · rcases List.mem_append.1 hr with hr | hr
    · obtain ⟨h1, h2⟩ := h.only r hr
      exact ⟨by omega, h2⟩
    · have := List.mem_singleton.1 hr
      subst this
      exact ⟨Nat.lt_succ_self k, hdk, hS⟩
  · refine List.pairwise_append.2 ⟨h.sorted, List.pairwise_singleton _ _, fun r hr s hs => ?_⟩
    rw [List.mem_singleton.1 hs]
    exact (h.only r hr).1
theorem uniq_dst (hok : ParOk ops n bf) {i j : Nat} {d : Tmp} (hi : i < n) (hj : j < n) (h1 : dstOf ops i = some d) (h2 : dstOf ops j = some d) : i = j := by
  rcases Nat.lt_trichotomy i j with h | h | h
  · exact absurd h1 (hok.dist j d i hj h2 h)
  · exact h
  · exact absurd h2 (hok.dist i d j hi h1 h)
/-- the walk's frame, its open slots filled in as a1 has them, agrees with a1 -/
theorem WInv.agree (hok : ParOk ops n bf) {S : Nat → SP} {k : Nat} (hk : k ≤ n) {rels : List Rel} {a a1 : Act} (h : WInv ops a0 S k rels a) (hsz : ∀ j d, dstOf ops j = some d → d < a0.tmps.size) {t : Tmp}
    (hv : ∀ j c, j < k → dstOf ops j = some t → S j = .val c → a1.eval (.tmp t) = c) (ho : (∀ j, j < k → dstOf ops j ≠ some t) → a1.eval (.tmp t) = a0.eval (.tmp t)) :
    (putRels (pick ops a1) rels a).eval (.tmp t) = a1.eval (.tmp t) := by
  by_cases hex : ∃ j, j < k ∧ dstOf ops j = some t
  · obtain ⟨j, hj, hd⟩ := hex
    cases hS : S j with
    | val c =>
      rw [putRels_ne, h.vals j c t hj hS hd, hv j c hj hd hS]
      intro r hr e
      obtain ⟨h1, h2, h3⟩ := h.only r hr
      rw [e] at h2
      have := uniq_dst hok (by omega) (by omega) h2 hd
      rw [this, hS] at h3
      cases h3
    | rel R fr =>
      rw [putRels_eq (pick ops a1) (j := j) rels a (by rw [h.shape.1]; exact hsz j t hd) (fun r hr e => ?_) ⟨_, h.have_ j R fr t hj hS hd, rfl⟩, pick_eq hd]
      obtain ⟨h1, h2, h3⟩ := h.only r hr
      rw [e] at h2
      exact uniq_dst hok (by omega) (by omega) h2 hd
  · have hne : ∀ j, j < k → dstOf ops j ≠ some t := fun j hj e => hex ⟨j, hj, e⟩
    rw [putRels_ne, h.other t hne, ho hne]
    intro r hr e
    obtain ⟨h1, h2, _⟩ := h.only r hr
    exact hne r.1 h1 (by rw [h2, e])
/-- what the walk shows of operation k at its own frame, it shows at every frame that holds what it looks at -/
theorem opOK_of_giv (hok : ParOk ops n bf) {S : Nat → SP} {k : Nat} (hk : k < n) {rels : List Rel} {a : Act} (h : WInv ops a0 S k rels a) {o : Oper} (ho : ops[k]? = some o)
    (hsz : ∀ j d, dstOf ops j = some d → d < a0.tmps.size)
    (hg : ∀ w1, Ext w0 w1 → Giv (fun j => (bf.getD k 0).testBit j = true) w1 (relStep P ops o (S k) w1) rels a) : OpOK P ops n bf w0 a0 S k := by
  intro o' ho' a1 w1 he hsize hdeps hlook
  have : o' = o := Option.some.inj (ho'.symm.trans ho)
  subst this
  have h1 := giv_inst (pick ops a1) rels a (fun r hr hb => by
    obtain ⟨hr1, hr2, hr3⟩ := h.only r hr
    have := hdeps r.1 r.2.1 hr1 hb hr2
    rw [hr3] at this
    rw [pick_eq hr2]
    exact this) (hg w1 he)
  refine relStep_same (hok.nosel k o' · · ho) ?_ (fun t ht => ?_) h1
  · rw [(putRels_shape _ _ _).1, h.shape.1, hsize]
  · refine h.agree hok (by omega) hsz (fun j c hj hd hS => ?_) (fun hno => hlook t ht fun j hj => ?_)
    · obtain ⟨_, hb⟩ := hok.looks k o' t j hk ho ht (by omega) hd
      have := hdeps j t hj hb hd
      rw [hS] at this
      exact this
    · intro hd
      exact hno j (hok.looks k o' t j hk ho ht hj hd).1 hd
/-- an operation that looks at no open slot -/
theorem giv_of_clean {w1 : World} {o : Oper} (hsel : ∀ cs b, o.op ≠ .select cs b) {S : SP} {bits : Nat → Prop} : ∀ (rels : List Rel) (a : Act), clean ops o rels = true → relStep P ops o S w1 a → Giv bits w1 (relStep P ops o S w1) rels a
  | [], _, _, h => h
  | r :: rest, a, hc, h => fun v _ => by
    simp only [clean, List.all_cons, Bool.and_eq_true, Bool.not_eq_true'] at hc
    refine giv_of_clean hsel rest _ hc.2 (relStep_same hsel (size_put _ _ _).symm (fun t ht => (eval_put_ne fun e => ?_).symm) h)
    injection e with e
    subst e
    have h1 := hc.1
    simp at h1
    exact h1 ht

theorem WInv.congr {S S' : Nat → SP} {k : Nat} {rels : List Rel} {a : Act} (h : WInv ops a0 S k rels a) (hS : ∀ j, j < k → S' j = S j) : WInv ops a0 S' k rels a :=
  ⟨h.shape, h.other, fun j c d hj hs => h.vals j c d hj (by rw [← hS j hj]; exact hs), fun j R fr d hj hs => h.have_ j R fr d hj (by rw [← hS j hj]; exact hs),
    fun r hr => let ⟨h1, h2, h3⟩ := h.only r hr; ⟨h1, h2, (hS _ h1).trans h3⟩, h.sorted⟩
theorem OpOK.congr {S S' : Nat → SP} {k : Nat} (h : OpOK P ops n bf w0 a0 S k) (hS : ∀ j, j ≤ k → S' j = S j) : OpOK P ops n bf w0 a0 S' k := by
  intro o ho a1 w1 he hs hd hl
  rw [hS k (Nat.le_refl _)]
  exact h o ho a1 w1 he hs (fun j d hj hb hdj => by rw [← hS j (by omega)]; exact hd j d hj hb hdj) hl

theorem parW_spec (hok : ParOk ops n bf) (hsz : ∀ j d, dstOf ops j = some d → d < a0.tmps.size) {F : Act → World → Prop} : ∀ (os : List Oper) (k : Nat) (rels : List Rel) (a : Act) (S0 : Nat → SP),
    (∀ j, j < os.length → os[j]? = ops[k + j]?) → k + os.length = n → WInv ops a0 S0 k rels a → (∀ j, j < k → (S0 j).stable) → ParW P ops bf w0 F os k rels a →
    ∃ S : Nat → SP, (∀ j, j < k → S j = S0 j) ∧ (∀ j, j < n → (S j).stable) ∧ (∀ j, k ≤ j → j < n → OpOK P ops n bf w0 a0 S j) ∧ FinOK ops n w0 a0 F S
  | [], k, rels, a, S0, _, hk, hW, hst, h => by
    have hkn : k = n := by simpa using hk
    subst hkn
    refine ⟨S0, fun _ _ => rfl, hst, fun j h1 h2 => by omega, fun a1 w1 he hsh hv hdi ho => ?_⟩
    have h1 := givF_inst (pick ops a1) rels [] a (fun r hr => by
      obtain ⟨hr1, hr2, hr3⟩ := hW.only r hr
      have := hv r.1 r.2.1 hr1 hr2
      rw [hr3] at this
      rw [pick_eq hr2]
      exact this) (by
      rw [List.nil_append, List.pairwise_map]
      refine List.Pairwise.imp_of_mem ?_ (hW.sorted.filter _)
      intro r s hr hs hlt
      obtain ⟨hr1, hr2⟩ := List.mem_filter.1 hr
      obtain ⟨hs1, hs2⟩ := List.mem_filter.1 hs
      obtain ⟨h1, h2, h3⟩ := hW.only r hr1
      obtain ⟨k1, k2, k3⟩ := hW.only s hs1
      rw [pick_eq h2, pick_eq k2]
      exact hdi _ _ _ _ h1 k1 (by omega) h2 k2 (by rw [h3]; exact hr2) (by rw [k3]; exact hs2)) (h w1 he)
    have e : putRels (pick ops a1) rels a = a1 := by
      have hs := putRels_shape (pick ops a1) rels a
      refine act_ext ⟨hs.1.trans (hW.shape.1.trans hsh.1.symm), hs.2.trans (hW.shape.2.trans hsh.2.symm)⟩ fun t _ => ?_
      refine hW.agree hok (Nat.le_refl _) hsz (fun j c hj hd hS => ?_) (fun hno => ho t hno)
      have := hv j t hj hd
      rw [hS] at this
      exact this
    rw [e] at h1
    exact h1
  | o :: os, k, rels, a, S0, hos, hk, hW, hst, h => by
    have hkn : k < n := by simp only [List.length_cons] at hk; omega
    have ho : ops[k]? = some o := by have := hos 0 (by simp); simpa using this.symm
    have hsel := fun cs b => hok.nosel k o cs b ho
    have hos' : ∀ j, j < os.length → os[j]? = ops[k + 1 + j]? := fun j hj => by
      have := hos (j + 1) (by simp; omega)
      simpa [Nat.add_assoc, Nat.add_comm 1 j] using this
    have hk' : k + 1 + os.length = n := by simp only [List.length_cons] at hk; omega
    -- one step, whatever is chosen
    have step : ∀ (T : SP) (rels' : List Rel) (a' : Act), T.stable → (∀ w1, Ext w0 w1 → Giv (fun j => (bf.getD k 0).testBit j = true) w1 (relStep P ops o T w1) rels a) →
        (∀ S1 : Nat → SP, S1 k = T → WInv ops a0 S1 k rels a → WInv ops a0 S1 (k + 1) rels' a') → ParW P ops bf w0 F os (k + 1) rels' a' →
        ∃ S : Nat → SP, (∀ j, j < k → S j = S0 j) ∧ (∀ j, j < n → (S j).stable) ∧ (∀ j, k ≤ j → j < n → OpOK P ops n bf w0 a0 S j) ∧ FinOK ops n w0 a0 F S := by
      intro T rels' a' hT hg hW' hrest
      have hS1 : ∀ j, j < k → (fun j => if j = k then T else S0 j) j = S0 j := fun j hj => if_neg (by omega)
      have hW1 := hW.congr hS1
      have h1k : (fun j => if j = k then T else S0 j) k = T := if_pos rfl
      have hop : OpOK P ops n bf w0 a0 (fun j => if j = k then T else S0 j) k := opOK_of_giv hok hkn hW1 ho hsz (by show ∀ w1, Ext w0 w1 → Giv _ w1 (relStep P ops o (if k = k then T else S0 k) w1) rels a; rw [if_pos rfl]; exact hg)
      obtain ⟨S, hS, hSst, hSop, hfin⟩ := parW_spec hok hsz os (k + 1) rels' a' _ hos' hk' (hW' _ h1k hW1) (fun j hj => by
        by_cases hjk : j = k
        · rw [if_pos hjk]; exact hT
        · rw [if_neg hjk]; exact hst j (by omega)) hrest
      refine ⟨S, fun j hj => (hS j (by omega)).trans (hS1 j hj), hSst, fun j h1 h2 => ?_, hfin⟩
      by_cases hjk : j = k
      · subst hjk; exact hop.congr fun i hi => hS i (by omega)
      · exact hSop j (by omega) h2
    have hdd : ∀ d j, dstOf ops k = some d → j < k → dstOf ops j ≠ some d := fun d j hd hj => hok.dist k d j hkn hd hj
    rcases h with ⟨hc, c, hx, hrest⟩ | ⟨c, hg, hrest⟩ | ⟨d, R, fr, hd, hR, hg, hrest⟩
    · exact step (.val c) rels _ trivial (fun w1 he => giv_of_clean hsel rels a hc (hx ⟨w1, he⟩)) (fun S1 h1 hw => hw.put_val ho h1 hdd fun d hd => hsz k d hd) hrest
    · exact step (.val c) rels _ trivial hg (fun S1 h1 hw => hw.put_val ho h1 hdd fun d hd => hsz k d hd) hrest
    · exact step (.rel R fr) _ a hR hg (fun S1 h1 hw => hw.put_rel (by simp [dstOf, ho, hd]) h1) hrest

/-! ## whatever order -/
structure RInv (ops : Array Oper) (n : Nat) (w0 : World) (a0 : Act) (S : Nat → SP) (listed : Array Bool) (a : Act) (w : World) : Prop where
  size : listed.size = ops.size
  closed : ∀ (j : Nat) (o : Oper), ops[j]? = some o → listed.getD j false = true → ∀ e ∈ o.after, Region.binds .any e = true → listed.getD e.on false = true
  tail : ∀ t, n ≤ t → t < ops.size → listed.getD t true = false
  ext : Ext w0 w
  shape : SameShape a a0
  vals : ∀ j d, j < n → listed.getD j false = true → dstOf ops j = some d → (S j).holds (a.eval (.tmp d)) w
  other : ∀ t, (∀ j, j < n → dstOf ops j = some t → listed.getD j false = false) → a.eval (.tmp t) = a0.eval (.tmp t)
  live : ∀ j d, j < n → listed.getD j false = true → dstOf ops j = some d → (S j).fresh = true → ∃ b, blockOf (a.eval (.tmp d)) = some b ∧ b < w.heap.size
  dist : ∀ i j di dj, i < n → j < n → i ≠ j → listed.getD i false = true → listed.getD j false = true → dstOf ops i = some di → dstOf ops j = some dj → (S i).fresh = true → (S j).fresh = true →
    blockOf (a.eval (.tmp di)) ≠ blockOf (a.eval (.tmp dj))

/-- what stands in the mask of i has come up when i's own edges have -/
theorem mask_listed (hok : ParOk ops n bf) {listed : Array Bool} (hcl : ∀ (j : Nat) (o : Oper), ops[j]? = some o → listed.getD j false = true → ∀ e ∈ o.after, Region.binds .any e = true → listed.getD e.on false = true) :
    ∀ (i : Nat) (o : Oper), ops[i]? = some o → (∀ e ∈ o.after, Region.binds .any e = true → listed.getD e.on false = true) → ∀ j, j < i → (bf.getD i 0).testBit j = true → listed.getD j false = true := by
  intro i
  induction i using Nat.strongRecOn with
  | _ i ih =>
    intro o ho hall j hj hb
    obtain ⟨e, he, hbd, h⟩ := hok.mask i o j ho hj hb
    have hl := hall e he hbd
    rcases h with h | h
    · rw [← h]; exact hl
    · have hlt := hok.back i o ho e he hbd
      have hes : e.on < ops.size := by have := (Array.getElem?_eq_some_iff.1 ho).1; omega
      obtain ⟨o', ho'⟩ : ∃ o', ops[e.on]? = some o' := ⟨_, Array.getElem?_eq_getElem hes⟩
      exact ih e.on hlt o' ho' (hcl e.on o' ho' hl) j h.1 h.2
theorem getD_ft {listed : Array Bool} {i : Nat} (h : listed.getD i false = true) : listed.getD i true = true := by
  rcases Nat.lt_or_ge i listed.size with h' | h'
  · simp [h'] at h ⊢; exact h
  · simp [Array.getElem?_eq_none h']
theorem getD_tf {listed : Array Bool} {i : Nat} (h : listed.getD i true = false) : listed.getD i false = false := by
  cases h' : listed.getD i false with
  | false => rfl
  | true => rw [getD_ft h'] at h; cases h
theorem getD_cases {listed : Array Bool} {i : Nat} (hi : i < listed.size) : listed.getD i true = listed.getD i false := by simp [hi]

theorem RInv.set (hok : ParOk ops n bf) (hsz : ∀ j d, dstOf ops j = some d → d < a0.tmps.size) {S : Nat → SP} (hst : ∀ j, j < n → (S j).stable) {listed : Array Bool} {a : Act} {w : World} (h : RInv ops n w0 a0 S listed a w)
    {i : Nat} (hi : i ∈ Region.ready .any ops listed) (hin : i < n) {o : Oper} (ho : ops[i]? = some o) {v : Value} {w' : World} (he : Ext w w') (hv : (S i).holds v w') (hb : (S i).born v w w') :
    RInv ops n w0 a0 S (listed.setIfInBounds i true) (a.put o.dst v) w' := by
  obtain ⟨hun, oi, hoi, hall⟩ := mem_ready.1 hi
  have : oi = o := Option.some.inj (hoi.symm.trans ho)
  subst this
  have hdi : dstOf ops i = oi.dst := by simp [dstOf, ho]
  have his : i < listed.size := by rw [h.size]; exact (Array.getElem?_eq_some_iff.1 ho).1
  refine ⟨by simp [h.size], fun j oj hj hl e he' hb => ?_, fun t ht ht' => by rw [getD_set_ne true (by omega)]; exact h.tail t ht ht', h.ext.trans he,
    ⟨(size_put _ _ _).trans h.shape.1, (defers_put _ _ _).trans h.shape.2⟩, fun j d hj hl hd => ?_, fun t ht => ?_, fun j d hj hl hd hf => ?_, fun i' j di dj hi' hj hne hli hlj hdi' hdj hfi hfj => ?_⟩
  · by_cases hij : i = j
    · subst hij
      have : oj = oi := Option.some.inj (hj.symm.trans ho)
      subst this
      exact getD_set_true (hall e he' hb)
    · rw [getD_set_ne false hij] at hl
      exact getD_set_true (h.closed j oj hj hl e he' hb)
  · by_cases hij : i = j
    · subst hij
      rw [← hdi, hd, eval_put_same (by rw [h.shape.1]; exact hsz i d hd)]
      exact hv
    · rw [getD_set_ne false hij] at hl
      rw [eval_put_ne (by rw [← hdi]; exact fun e => hij (uniq_dst hok hin hj e hd))]
      exact (S j).holds_ext (hst j hj) (h.vals j d hj hl hd) he
  · have hne : oi.dst ≠ some t := fun e => by
      have h1 := ht i hin (hdi.trans e)
      have h2 : (listed.setIfInBounds i true).getD i false = true := by simp [his]
      rw [h2] at h1; cases h1
    rw [eval_put_ne hne]
    refine h.other t fun j hj hd => ?_
    have h1 := ht j hj hd
    cases h2 : listed.getD j false with
    | false => rfl
    | true => rw [getD_set_true h2] at h1; cases h1
  · by_cases hij : i = j
    · subst hij
      obtain ⟨b, hb1, _, hb3⟩ := hb hf
      rw [← hdi, hd, eval_put_same (by rw [h.shape.1]; exact hsz i d hd)]
      exact ⟨b, hb1, hb3⟩
    · rw [getD_set_ne false hij] at hl
      rw [eval_put_ne (by rw [← hdi]; exact fun e => hij (uniq_dst hok hin hj e hd))]
      obtain ⟨b, hb1, hb2⟩ := h.live j d hj hl hd hf
      exact ⟨b, hb1, Nat.lt_of_lt_of_le hb2 he.size⟩
  · have key : ∀ j d, j < n → i ≠ j → (listed.setIfInBounds i true).getD j false = true → dstOf ops j = some d → (a.put oi.dst v).eval (.tmp d) = a.eval (.tmp d) ∧ listed.getD j false = true := fun j d hj hij hl hd => by
      rw [getD_set_ne false hij] at hl
      exact ⟨eval_put_ne (by rw [← hdi]; exact fun e => hij (uniq_dst hok hin hj e hd)), hl⟩
    have new : ∀ j d d', j < n → i ≠ j → (listed.setIfInBounds i true).getD j false = true → dstOf ops j = some d → (S j).fresh = true → (S i).fresh = true → dstOf ops i = some d' → blockOf ((a.put oi.dst v).eval (.tmp d')) ≠ blockOf ((a.put oi.dst v).eval (.tmp d)) := fun j d d' hj hij hl hd hfj hfi hd' => by
      obtain ⟨e1, hl'⟩ := key j d hj hij hl hd
      obtain ⟨b, hb1, hb2, _⟩ := hb hfi
      obtain ⟨b', hb1', hb2'⟩ := h.live j d hj hl' hd hfj
      rw [e1, hb1', ← hdi, hd', eval_put_same (by rw [h.shape.1]; exact hsz i d' hd'), hb1]
      intro e
      injection e with e
      omega
    by_cases h1 : i = i'
    · subst h1
      exact new j dj di hj hne hlj hdj hfj hfi hdi'
    · by_cases h2 : i = j
      · subst h2
        exact fun e => new i' di dj hi' h1 hli hdi' hfi hfj hdj e.symm
      · obtain ⟨e1, l1⟩ := key i' di hi' h1 hli hdi'
        obtain ⟨e2, l2⟩ := key j dj hj h2 hlj hdj
        rw [e1, e2]
        exact h.dist i' j di dj hi' hj hne l1 l2 hdi' hdj hfi hfj

theorem wpAny_more {Q : Exit → Act → World → Prop} : ∀ (f : Nat) (listed : Array Bool) (a : Act) (w : World), wpAny P .any ops Q f listed a w → wpAny P .any ops Q (f + 1) listed a w
  | 0, _, _, _, h => ⟨fun _ => h.2, fun i hi => by rw [h.1] at hi; cases hi⟩
  | f + 1, _, _, _, h => ⟨h.1, fun i hi => wpOp_mono (fun a w => wpAny_more f _ a w) (h.2 i hi)⟩
theorem wpAny_add {Q : Exit → Act → World → Prop} {f : Nat} {listed : Array Bool} {a : Act} {w : World} (h : wpAny P .any ops Q f listed a w) : ∀ g, wpAny P .any ops Q (f + g) listed a w
  | 0 => h
  | g + 1 => wpAny_more _ _ _ _ (wpAny_add h g)

theorem wp_of_relUpon {o : Oper} {a : Act} {w : World} {S : SP} {K : Act → World → Prop} {Q : Exit → Act → World → Prop} (hK : ∀ v w', Ext w w' → S.holds v w' → S.born v w w' → K (a.put o.dst v) w')
    (h : relUpon P w S ((execOp a.eval o).run P w)) : o.wp P a w K Q := by
  unfold Oper.wp
  generalize (execOp a.eval o).run P w = r at *
  cases r with
  | ok x w' =>
    cases x <;> simp only [relUpon] at h <;> simp only [Oper.upon]
    case value u => exact hK _ _ h.1 h.2.1 h.2.2
    case skip => exact hK _ _ h.1 h.2.1 fun hf => by rw [h.2.2] at hf; cases hf
    case enter f args => exact h.2.2.mono fun e w'' ⟨v, hev, he, hv⟩ => by subst hev; exact hK _ _ (h.1.trans he) hv fun hf => by rw [h.2.1] at hf; cases hf
  | halt x w' => simp only [relUpon] at h

theorem count_false_set {l : Array Bool} {i : Nat} (hi : i < l.size) (h : l.getD i true = false) : (l.setIfInBounds i true).toList.count false + 1 = l.toList.count false := by
  have hi' : i < l.toList.length := by simpa using hi
  have hg : l.toList[i] = false := by simpa [hi] using h
  rw [Array.toList_setIfInBounds, List.count_set hi', hg]
  have hpos : 0 < l.toList.count false := List.count_pos_iff.2 (hg ▸ List.getElem_mem hi')
  have e1 : (if (false == false) = true then 1 else 0) = 1 := rfl
  have e2 : (if (true == false) = true then 1 else 0) = 0 := rfl
  rw [e1, e2]
  omega

/-- the least that has not come up may come up -/
theorem some_ready (hok : ParOk ops n bf) {listed : Array Bool} (hsize : listed.size = ops.size) {i : Nat} (hi : i < ops.size) (hun : listed.getD i false = false) : Region.ready .any ops listed ≠ [] := by
  induction i using Nat.strongRecOn with
  | _ i ih =>
    obtain ⟨o, ho⟩ : ∃ o, ops[i]? = some o := ⟨_, Array.getElem?_eq_getElem hi⟩
    by_cases hall : ∀ e ∈ o.after, Region.binds .any e = true → listed.getD e.on false = true
    · have : i ∈ Region.ready .any ops listed := mem_ready.2 ⟨by rw [getD_cases (by omega)]; exact hun, o, ho, hall⟩
      intro h0
      rw [h0] at this
      cases this
    · obtain ⟨e, h1⟩ := Classical.not_forall.1 hall
      obtain ⟨he, h2⟩ := Classical.not_forall.1 h1
      obtain ⟨hb, hl⟩ := Classical.not_forall.1 h2
      have hlt := hok.back i o ho e he hb
      exact ih e.on hlt (by omega) (by simpa using hl)

theorem wpAny_of_par (hok : ParOk ops n bf) (hsz : ∀ j d, dstOf ops j = some d → d < a0.tmps.size) {S : Nat → SP} (hst : ∀ j, j < n → (S j).stable) (hop : ∀ j, j < n → OpOK P ops n bf w0 a0 S j) {Q : Exit → Act → World → Prop}
    (hfin : FinOK ops n w0 a0 (fun a w => wpList P ops Q (ops.toList.drop n) a w) S) :
    ∀ (f : Nat) (listed : Array Bool) (a : Act) (w : World), RInv ops n w0 a0 S listed a w → listed.toList.count false ≤ f → wpAny P .any ops Q f listed a w := by
  intro f
  induction f with
  | zero =>
    intro listed a w h hc
    -- all have come up
    have hall : ∀ i, i < ops.size → listed.getD i false = true := fun i hi => by
      have hi' : i < listed.toList.length := by simpa [h.size] using hi
      cases hg : listed.getD i false with
      | true => rfl
      | false =>
        have h1 : listed.toList[i] = false := by simpa [h.size, hi] using hg
        have := List.count_pos_iff.2 (h1 ▸ List.getElem_mem hi')
        omega
    have hn : n = ops.size := by
      rcases Nat.lt_or_ge n ops.size with h1 | h1
      · have := h.tail n (Nat.le_refl _) h1
        rw [getD_cases (by rw [h.size]; exact h1), hall n h1] at this
        cases this
      · have := hok.le; omega
    refine ⟨?_, ?_⟩
    · rw [List.eq_nil_iff_forall_not_mem]
      intro i hi
      obtain ⟨hun, o, ho, _⟩ := mem_ready.1 hi
      have := hall i (Array.getElem?_eq_some_iff.1 ho).1
      rw [getD_ft this] at hun
      cases hun
    · have := hfin a w h.ext h.shape (fun j d hj hd => h.vals j d hj (hall j (by omega)) hd) (fun i j di dj hi hj hne h1 h2 => h.dist i j di dj hi hj hne (hall i (by omega)) (hall j (by omega)) h1 h2) (fun t ht => h.other t fun j hj hd => absurd hd (ht j hj))
      rw [hn, List.drop_eq_nil_of_le (by simp)] at this
      exact this
  | succ f ih =>
    intro listed a w h hc
    by_cases hpre : ∃ i, i < n ∧ listed.getD i false = false
    · obtain ⟨i0, hi0, hun0⟩ := hpre
      refine ⟨fun h0 => absurd h0 (some_ready hok h.size (by have := hok.le; omega) hun0), fun i hi => ?_⟩
      obtain ⟨hun, o, ho, hall⟩ := mem_ready.1 hi
      have his : i < ops.size := (Array.getElem?_eq_some_iff.1 ho).1
      have hml := mask_listed hok h.closed i o ho hall
      have hin : i < n := by
        rcases Nat.lt_or_ge i n with h1 | h1
        · exact h1
        · have := hml i0 (by omega) (hok.tail i i0 h1 his (by omega))
          rw [this] at hun0
          cases hun0
      have hr := hop i hin o ho a w h.ext h.shape.1 (fun j d hj hb hd => h.vals j d (by omega) (hml j hj hb) hd) (fun t ht hno => h.other t fun j hj hd => absurd hd (hno j hj))
      have hcnt := count_false_set (by rw [h.size]; exact his) hun
      have hK : ∀ v w', Ext w w' → (S i).holds v w' → (S i).born v w w' → wpAny P .any ops Q f (listed.setIfInBounds i true) (a.put o.dst v) w' :=
        fun v w' he hv hb => ih _ _ _ (h.set hok hsz hst hi hin ho he hv hb) (by omega)
      unfold wpOp
      simp only [ho]
      unfold relStep at hr
      split at hr
      · rename_i hw
        rw [if_pos hw]
        exact .inl (wp_of_relUpon hK hr)
      · rename_i hw
        rw [if_neg hw]
        exact hK _ _ (Ext.refl _) hr.1 fun hf => by rw [hr.2] at hf; cases hf
    · -- the prefix has come up: the tail, one after the other
      have hpre' : ∀ i, i < n → listed.getD i false = true := fun i hi => by
        cases hg : listed.getD i false with
        | true => rfl
        | false => exact absurd ⟨i, hi, hg⟩ hpre
      have hF := hfin a w h.ext h.shape (fun j d hj hd => h.vals j d hj (hpre' j hj) hd) (fun i j di dj hi hj hne h1 h2 => h.dist i j di dj hi hj hne (hpre' i hi) (hpre' j hj) h1 h2) (fun t ht => h.other t fun j hj hd => absurd hd (ht j hj))
      have hle := hok.le
      have hlist : listed = (List.replicate n true ++ List.replicate (ops.size - n) false).toArray := by
        refine Array.ext (by simp [h.size]; omega) fun i h1 h2 => ?_
        rcases Nat.lt_or_ge i n with hi | hi
        · have := hpre' i hi
          simp only [Array.getD_eq_getD_getElem?, Array.getElem?_eq_getElem h1, Option.getD_some] at this
          simp [this, List.getElem_append, hi]
        · have := h.tail i hi (by rw [← h.size]; exact h1)
          simp only [Array.getD_eq_getD_getElem?, Array.getElem?_eq_getElem h1, Option.getD_some] at this
          simp [this, List.getElem_append, Nat.not_lt.2 hi]
      have hseq := wpAny_of_seq (P := P) (Q' := Q) (md := .any) (ops.toList.drop n) n listed a w (fun j => by simp [List.getElem?_drop]) (by rw [hlist]; simpa using hok.seq) hF
      have hcount : listed.toList.count false = ops.size - n := by
        rw [hlist]
        simp [List.count_replicate]
      have hlen : (ops.toList.drop n).length = ops.size - n := by simp
      rw [hlen] at hseq
      have := wpAny_add hseq (f + 1 - (ops.size - n))
      rwa [show ops.size - n + (f + 1 - (ops.size - n)) = f + 1 by omega] at this
end

/-- **A REGION THAT DRAWS ITS ORDER: its first n operations in whatever order, each looked at once, in every later world; those behind them one after the other.** -/
theorem wp_region_par {P : Program} {id : Nat} {Q : Exit → Act → World → Prop} {a : Act} {w : World} {l : List Oper} (n : Nat) (bf : Array Nat) (hm : P.follows .mixedOrders = true) (hB : parB l.toArray n bf = true)
    (hsz : dstsIn l a.tmps.size = true) (h : ParW P l.toArray bf w.drew (fun a' w' => wpList P l.toArray Q (l.drop n) a' w') (l.take n) 0 [] a) : (Code.region id l.toArray true).wp P Q a w := by
  have hok := parOk_of hB
  have hsz' : ∀ j d, dstOf l.toArray j = some d → d < a.tmps.size := fun j d hd => by
    simp only [dstsIn, List.all_eq_true] at hsz
    cases ho : l[j]? with
    | none => simp [dstOf, ho] at hd
    | some o =>
      have h1 := hsz o (List.mem_of_getElem? ho)
      have h2 : o.dst = some d := by simpa [dstOf, ho] using hd
      rw [h2] at h1
      simpa using h1
  have hle : n ≤ l.length := by simpa using hok.le
  have htl : (l.take n).length = n := by simp; omega
  obtain ⟨S, _, hst, hop, hfin⟩ := parW_spec (P := P) (ops := l.toArray) (n := n) (bf := bf) (w0 := w.drew) (a0 := a) hok hsz' (l.take n) 0 [] a (fun _ => .val undef)
    (fun j hj => by rw [htl] at hj; simp [hj]) (by simpa using htl)
    ⟨⟨rfl, rfl⟩, fun _ _ => rfl, fun j c d hj => by omega, fun j R fr d hj => by omega, fun r hr => (by cases hr), List.Pairwise.nil⟩ (fun j hj => by omega) h
  refine wp_region_any hm ?_
  refine wpAny_of_par (n := n) (bf := bf) (w0 := w.drew) (a0 := a) hok hsz' hst (fun j hj => hop j (Nat.zero_le _) hj) (by simpa using hfin) _ _ _ _ ?_ ?_
  · refine ⟨by simp, fun j o _ hl => ?_, fun t _ ht => ?_, Ext.refl _, ⟨rfl, rfl⟩, fun j d _ hl => ?_, fun _ _ => rfl, fun j d _ hl => ?_, fun i j di dj _ _ _ hl => ?_⟩
    · rw [getD_replicate_false] at hl; cases hl
    · exact getD_in (by simpa using ht) (getD_replicate_false _ _)
    · rw [getD_replicate_false] at hl; cases hl
    · rw [getD_replicate_false] at hl; cases hl
    · rw [getD_replicate_false] at hl; cases hl
  · simp [List.count_replicate]
theorem wp_region_par' {P : Program} {id : Nat} {Q : Exit → Act → World → Prop} {a : Act} {w : World} {l : List Oper} (n : Nat) (hm : P.follows .mixedOrders = true) (hB : parB l.toArray n (Region.before l.toArray) = true)
    (hsz : dstsIn l a.tmps.size = true) (h : ParW P l.toArray (Region.before l.toArray) w.drew (fun a' w' => wpList P l.toArray Q (l.drop n) a' w') (l.take n) 0 [] a) : (Code.region id l.toArray true).wp P Q a w :=
  wp_region_par n _ hm hB hsz h
section
variable {P : Program} {ops : Array Oper} {bf : Array Nat} {w0 : World} {F : Act → World → Prop} {o : Oper} {os : List Oper} {k : Nat} {rels : List Rel} {a : Act}
theorem parW_val {c : Value} (hc : clean ops o rels = true) (hx : ∀ x : Later w0, relStep P ops o (.val c) x.val a) (h : ParW P ops bf w0 F os (k + 1) rels (a.put o.dst c)) : ParW P ops bf w0 F (o :: os) k rels a :=
  .inl ⟨hc, c, hx, h⟩
theorem parW_end (h : ∀ x : Later w0, F a x.val) : ParW P ops bf w0 F [] k [] a := fun w1 he _ => h ⟨w1, he⟩
theorem ext_refl (w : World) : Ext w w ↔ True := iff_of_true (Ext.refl w) trivial
theorem holds_val (c v : Value) (w : World) : (SP.val c).holds v w ↔ v = c := Iff.rfl
theorem holds_rel (R : VP) (b : Bool) (v : Value) (w : World) : (SP.rel R b).holds v w ↔ R v w := Iff.rfl
theorem born_val (c u : Value) (w w' : World) : (SP.val c).born u w w' ↔ True := iff_of_true (fun h => by cases h) trivial
theorem born_rel (R : VP) (u : Value) (w w' : World) : (SP.rel R false).born u w w' ↔ True := iff_of_true (fun h => by cases h) trivial
theorem fresh_val (c : Value) : (SP.val c).fresh = false := rfl
theorem fresh_rel (R : VP) (b : Bool) : (SP.rel R b).fresh = b := rfl
theorem relStep_def (S : SP) (w1 : World) (a : Act) : relStep P ops o S w1 a = if Region.wanted o (yielded ops a.tmps) then relUpon P w1 S ((execOp a.eval o).run P w1) else S.holds undef w1 ∧ S.fresh = false := rfl
theorem relUpon_value (w1 w' : World) (S : SP) (u : Value) : relUpon P w1 S (.ok (.value u) w') = (Ext w1 w' ∧ S.holds u w' ∧ S.born u w1 w') := rfl
theorem relUpon_skip (w1 w' : World) (S : SP) : relUpon P w1 S (.ok .skip w') = (Ext w1 w' ∧ S.holds undef w' ∧ S.fresh = false) := rfl
theorem relUpon_enter (w1 w' : World) (S : SP) (f : FuncId) (args : Array Value) : relUpon P w1 S (.ok (.enter f args) w') = (Ext w1 w' ∧ S.fresh = false ∧ Calls P f args w' (PostS w' S)) := rfl
theorem calls_val {f : FuncId} {args : Array Value} {w : World} {c : Value} (h : Calls P f args w fun e w' => e = .returned c ∧ Ext w w') : Calls P f args w (PostS w (.val c)) :=
  h.mono fun _ _ ⟨he, hx⟩ => ⟨c, he, hx, rfl⟩
theorem calls_same {f : FuncId} {args : Array Value} {w : World} {c : Value} (h : Calls P f args w fun e w' => e = .returned c ∧ w = w') : Calls P f args w (PostS w (.val c)) :=
  h.mono fun _ _ ⟨he, hx⟩ => ⟨c, he, hx ▸ Ext.refl w, rfl⟩
theorem calls_rel {f : FuncId} {args : Array Value} {w : World} {R : VP} (h : Calls P f args w fun e w' => ∃ v, e = .returned v ∧ Ext w w' ∧ R v w') : Calls P f args w (PostS w (.rel R false)) := h
theorem parW_step (hc : clean ops o rels = true) (h : ∀ K : Act → Prop, (∀ a', ParW P ops bf w0 F os (k + 1) rels a' → K a') → ∃ c, (∀ x : Later w0, relStep P ops o (.val c) x.val a) ∧ K (a.put o.dst c)) :
    ParW P ops bf w0 F (o :: os) k rels a :=
  let ⟨c, hx, hK⟩ := h _ (fun _ h => h)
  .inl ⟨hc, c, hx, hK⟩
theorem Later.cell_eq {w : World} (x : Later w) {a : Addr} (h : (w.cell? a).isSome = true) : x.val.cell? a = w.cell? a := by
  obtain ⟨v, hv⟩ := Option.isSome_iff_exists.1 h
  rw [x.cell hv, hv]
theorem alloc_cell_eq (w : World) (o : Obj) {a : Addr} (h : (w.cell? a).isSome = true) : (w.alloc o).cell? a = w.cell? a := by
  obtain ⟨v, hv⟩ := Option.isSome_iff_exists.1 h
  rw [(Ext.alloc w o).cell hv, hv]
theorem Later.frozen_eq {w : World} (x : Later w) {a : Addr} (h : (w.cell? a).isSome = true) : x.val.frozen? a = w.frozen? a := by
  obtain ⟨v, hv⟩ := Option.isSome_iff_exists.1 h
  exact Below.frozen x.prop (lt_of_cell hv)
theorem alloc_frozen_eq (w : World) (o : Obj) {a : Addr} (h : (w.cell? a).isSome = true) : (w.alloc o).frozen? a = w.frozen? a := by
  obtain ⟨v, hv⟩ := Option.isSome_iff_exists.1 h
  exact Below.frozen (Ext.alloc w o) (lt_of_cell hv)
theorem Ext.set {w w1 : World} (h : Ext w w1) {p : Addr} (hp : w.heap.size ≤ p.block) (v : Value) : Ext w (w1.setCell p v) := Below.setCell h hp v
theorem Ext.later {w w1 : World} (h : Ext w w1) (x : Later w1) : Ext w x.val := h.trans x.prop
/-- a call through a function value that stands in a slot -/
theorem execOp_call_tmp (a : Act) (dst : Option Tmp) (t : Tmp) (f : FuncId) (first cap : Array Value) (xs : Array Operand) (ats : Array TypeId) (ty : TypeId) (pos : String) (after : Array Edge) (guard : Option (Nat × Bool))
    (h : a.eval (.tmp t) = .func (.func f) first cap) :
    execOp a.eval { dst, op := .call { callee := .value (.tmp t), args := xs, argTypes := ats }, type := ty, pos, after, guard } = callFunc f (first ++ xs.map a.eval ++ cap) := by
  simp only [execOp, resolve, h]
  rfl
attribute [go_sem ↓] execOp_call_tmp
theorem ite_ok_bool (c : Prop) [Decidable c] (x y : Bool) (w : World) : (if c then Result.ok (Next.value (.bool x)) w else Result.ok (Next.value (.bool y)) w) = Result.ok (Next.value (.bool (if c then x else y))) w := by split <;> rfl
attribute [go_sem] ite_ok_bool
attribute [go_sem] born_val born_rel fresh_val fresh_rel Later.frozen_eq alloc_frozen_eq Later.cell_eq alloc_cell_eq ext_refl holds_val holds_rel relStep_def relUpon_value relUpon_skip relUpon_enter
end
end Go.Par
