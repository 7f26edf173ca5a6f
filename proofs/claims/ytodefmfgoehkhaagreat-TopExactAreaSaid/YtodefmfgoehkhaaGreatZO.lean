/- Texts put together: ParIn, TyA. -/
import Derived.Test.YtodefmfgoehkhaaGreatZA
import Derived.OrdersIn
import Derived.TacticsIn
import Derived.TacticsInMore
import Derived.RangeFuncNested
import Derived.RangeFuncBound
import Derived.RangeFuncCalls
import Derived.RangeFuncLeaves
import Derived.RangeFuncBox
import Derived.Shelf.Abstract
import Derived.OwnWalkIn
import Derived.LoopNIn
import Derived.LoopIn
import Derived.Test.YtodefmfgoehkhaaGreatTxD
/- Regions that draw their order, looked at once in every later world, in the body of a range over a function. Nothing of a program stands here. -/
set_option linter.unusedVariables false
set_option linter.unusedSimpArgs false
namespace Go.Par
open Go.RowKit

section
variable {P : Program} {ops : Array Oper} {n : Nat} {bf : Array Nat} {w0 : World} {a0 : Act}
theorem wpIn_of_relUpon {l m : Nat} {o : Oper} {a : Act} {w : World} {S : SP} {K : Act → World → Prop} {Q : Exit → Act → World → Prop} (hd : ∀ c, o.op ≠ .defer c) (hK : ∀ v w', Ext w w' → S.holds v w' → S.born v w w' → K (a.put o.dst v) w')
    (h : relUpon P w S ((execOp a.eval o).run P w)) : o.wpIn (Fence.wide.inRound l) m P a w K Q := by
  refine ⟨fun _ _ => trivial, ?_⟩
  rw [show o.semAt (Fence.wide.inRound l).round a.eval = execOp a.eval o from Oper.semAt_some l _ _ hd]
  generalize (execOp a.eval o).run P w = r at *
  cases r with
  | ok x w' =>
    cases x <;> simp only [relUpon] at h <;> simp only [Oper.uponIn]
    case value u => exact hK _ _ h.1 h.2.1 h.2.2
    case skip => exact hK _ _ h.1 h.2.1 fun hf => by rw [h.2.2] at hf; cases hf
    case enter f args => exact ⟨fun h => by simp [Fence.wide, Fence.inRound] at h, CallsIn.inRound l (callsIn_wide.2 (h.2.2.mono fun e w'' ⟨v, hev, he, hv⟩ => by subst hev; exact hK _ _ (h.1.trans he) hv fun hf => by rw [h.2.1] at hf; cases hf))⟩
  | halt x w' => simp only [relUpon] at h
theorem wpAnyIn_of_par {l m : Nat} (hok : ParOk ops n bf) (hn : n = ops.size) (hdf : ∀ o ∈ ops.toList, ∀ c, o.op ≠ .defer c) (hsz : ∀ j d, dstOf ops j = some d → d < a0.tmps.size) {S : Nat → SP} (hst : ∀ j, j < n → (S j).stable) (hop : ∀ j, j < n → OpOK P ops n bf w0 a0 S j) {Q : Exit → Act → World → Prop}
    (hfin : FinOK ops n w0 a0 (fun a w => Q .normal a w) S) :
    ∀ (f : Nat) (listed : Array Bool) (a : Act) (w : World), RInv ops n w0 a0 S listed a w → listed.toList.count false ≤ f → wpAnyIn (Fence.wide.inRound l) m P .any ops Q f listed a w := by
  intro f
  have done : ∀ (listed : Array Bool) (a : Act) (w : World), RInv ops n w0 a0 S listed a w → (∀ i, i < ops.size → listed.getD i false = true) → Region.ready .any ops listed = [] ∧ Q .normal a w := by
    intro listed a w h hall
    refine ⟨?_, ?_⟩
    · rw [List.eq_nil_iff_forall_not_mem]
      intro i hi
      obtain ⟨hun, o, ho, _⟩ := mem_ready.1 hi
      have := hall i (Array.getElem?_eq_some_iff.1 ho).1
      rw [getD_ft this] at hun
      cases hun
    · exact hfin a w h.ext h.shape (fun j d hj hd => h.vals j d hj (hall j (by omega)) hd) (fun i j di dj hi hj hne h1 h2 => h.dist i j di dj hi hj hne (hall i (by omega)) (hall j (by omega)) h1 h2) (fun t ht => h.other t fun j hj hd => absurd hd (ht j hj))
  induction f with
  | zero =>
    intro listed a w h hc
    refine done listed a w h fun i hi => ?_
    have hi' : i < listed.toList.length := by simpa [h.size] using hi
    cases hg : listed.getD i false with
    | true => rfl
    | false =>
      have h1 : listed.toList[i] = false := by simpa [h.size, hi] using hg
      have := List.count_pos_iff.2 (h1 ▸ List.getElem_mem hi')
      omega
  | succ f ih =>
    intro listed a w h hc
    by_cases hpre : ∃ i, i < n ∧ listed.getD i false = false
    · obtain ⟨i0, hi0, hun0⟩ := hpre
      refine ⟨fun h0 => absurd h0 (some_ready hok h.size (by have := hok.le; omega) hun0), fun i hi => ?_⟩
      obtain ⟨hun, o, ho, hall⟩ := mem_ready.1 hi
      have his : i < ops.size := (Array.getElem?_eq_some_iff.1 ho).1
      have hml := mask_listed hok h.closed i o ho hall
      have hin : i < n := by omega
      have hr := hop i hin o ho a w h.ext h.shape.1 (fun j d hj hb hd => h.vals j d (by omega) (hml j hj hb) hd) (fun t ht hno => h.other t fun j hj hd => absurd hd (hno j hj))
      have hcnt := count_false_set (by rw [h.size]; exact his) hun
      have hK : ∀ v w', Ext w w' → (S i).holds v w' → (S i).born v w w' → wpAnyIn (Fence.wide.inRound l) m P .any ops Q f (listed.setIfInBounds i true) (a.put o.dst v) w' :=
        fun v w' he hv hb => ih _ _ _ (h.set hok hsz hst hi hin ho he hv hb) (by omega)
      unfold wpOpIn
      simp only [ho]
      unfold relStep at hr
      split at hr
      · rename_i hw
        rw [if_pos hw]
        exact wpIn_of_relUpon (hdf o (List.mem_of_getElem? (by simpa using ho))) hK hr
      · rename_i hw
        rw [if_neg hw]
        exact ⟨fun _ _ => trivial, hK _ _ (Ext.refl _) hr.1 fun hf => by rw [hr.2] at hf; cases hf⟩
    · have hall : ∀ i, i < ops.size → listed.getD i false = true := fun i hi => by
        cases hg : listed.getD i false with
        | true => rfl
        | false => exact absurd ⟨i, by omega, hg⟩ hpre
      have hd := done listed a w h hall
      exact ⟨fun _ => hd.2, fun i hi => by rw [hd.1] at hi; cases hi⟩
end
def noDefer (l : List Oper) : Bool := l.all fun o => match o.op with | .defer _ => false | _ => true
/-- **A REGION THAT DRAWS ITS ORDER, IN A ROUND: all its operations in whatever order, each looked at once, in every later world.** -/
theorem wpIn_region_par {P : Program} {id m r : Nat} {Q : Exit → Act → World → Prop} {a : Act} {w : World} {l : List Oper} (hm : P.follows .mixedOrders = true) (hB : parB l.toArray l.length (Region.before l.toArray) = true) (hnd : noDefer l = true)
    (hsz : dstsIn l a.tmps.size = true) (h : ParW P l.toArray (Region.before l.toArray) w.drew (fun a' w' => wpListIn (Fence.wide.inRound r) m P l.toArray Q [] a' w') l 0 [] a) : (Code.region id l.toArray true).wpIn (Fence.wide.inRound r) m P Q a w := by
  have hok := parOk_of hB
  have hsz' : ∀ j d, dstOf l.toArray j = some d → d < a.tmps.size := fun j d hd => by
    simp only [dstsIn, List.all_eq_true] at hsz
    cases ho : l[j]? with
    | none => simp [dstOf, ho] at hd
    | some o =>
      have h1 := hsz o (List.mem_of_getElem? ho)
      have h2 : o.dst = some d := by simpa [dstOf, ho] using hd
      rw [h2] at h1
      simpa using h1
  obtain ⟨S, _, hst, hop, hfin⟩ := parW_spec (P := P) (ops := l.toArray) (n := l.length) (bf := Region.before l.toArray) (w0 := w.drew) (a0 := a) hok hsz' l 0 [] a (fun _ => .val undef)
    (fun j hj => by simp) (by simp)
    ⟨⟨rfl, rfl⟩, fun _ _ => rfl, fun j c d hj => by omega, fun j R fr d hj => by omega, fun r hr => (by cases hr), List.Pairwise.nil⟩ (fun j hj => by omega) h
  refine wpIn_region_any hm ?_
  refine wpAnyIn_of_par (n := l.length) (bf := Region.before l.toArray) (w0 := w.drew) (a0 := a) hok (by simp) (fun o ho c hc => ?_) hsz' hst (fun j hj => hop j (Nat.zero_le _) hj) hfin _ _ _ _ ?_ ?_
  · have := (List.all_eq_true.1 hnd) o (by simpa using ho)
    rw [hc] at this
    cases this
  · refine ⟨by simp, fun j o _ hl => ?_, fun t _ ht => ?_, Ext.refl _, ⟨rfl, rfl⟩, fun j d _ hl => ?_, fun _ _ => rfl, fun j d _ hl => ?_, fun i j di dj _ _ _ hl => ?_⟩
    · rw [getD_replicate_false] at hl; cases hl
    · exact getD_in (by simpa using ht) (getD_replicate_false _ _)
    · rw [getD_replicate_false] at hl; cases hl
    · rw [getD_replicate_false] at hl; cases hl
    · rw [getD_replicate_false] at hl; cases hl
  · simp [List.count_replicate]
end Go.Par

/- Rows of the call's own, of elements that hold rationals: what keeps digits as they lie. -/
set_option linter.unusedVariables false
set_option linter.unusedSimpArgs false
namespace Go.Proofs.YtodefmfgoehkhaaGreat
open Go.RowKit Go.Par Go.TN

/-! ## what keeps digits -/
/-- every digit that lay lies as it lay -/
def DigKeep (A B : World) : Prop := ∀ b i (d : Int), A.cell? ⟨b, i, none⟩ = some (.int .u32 d) → B.cell? ⟨b, i, none⟩ = some (.int .u32 d)
theorem DigKeep.refl (A : World) : DigKeep A A := fun _ _ _ h => h
theorem DigKeep.trans {A B C : World} (h : DigKeep A B) (k : DigKeep B C) : DigKeep A C := fun b i d hc => k b i d (h b i d hc)
theorem DigKeep.ext {A B : World} (h : Ext A B) : DigKeep A B := fun _ _ _ hc => h.cell hc
theorem DigKeep.but {A B : World} {g : Nat} (h : But g A B) (hn : NoDig A g) : DigKeep A B := fun b i d hc => by
  by_cases hb : b = g
  · subst hb; exact absurd hc (hn i d)
  · exact h.cell hc hb
theorem DigKeep.grown {A B : World} {row : Option Nat} (h : A.grownBy B row) (hn : ∀ g, row = some g → NoDig A g) : DigKeep A B := fun b i d hc => by
  by_cases hb : row = some b
  · exact absurd hc (hn b hb i d)
  · exact (World.cell?_of_block (h.block b (lt_of_cell hc) (fun e => hb e.symm))).trans hc
theorem NS.dk {w w' : World} {A : Option Addr} {n c k : Nat} (h : NS w A n c k) (he : DigKeep w w') : NS w' A n c k := by
  refine ⟨h.len, h.cap, fun hl => ?_⟩
  obtain ⟨b0, o, e, hc⟩ := h.at_ hl
  refine ⟨b0, o, e, fun i x hx j v hv => ?_⟩
  have h1 := hc i x hx j v hv
  have : v = .int .u32 (x : Int) := by
    cases j with
    | zero => simpa [natE] using hv.symm
    | succ j => simp [natE] at hv
  subst this
  exact he _ _ _ h1
theorem IS.dk {w w' : World} {b : Bool} {A : Option Addr} {n c : Nat} {z : Int} (h : IS w b A n c z) (he : DigKeep w w') : IS w' b A n c z := ⟨h.neg, h.ns.dk he⟩
theorem RS.dk {w w' : World} {b : Bool} {A : Option Addr} {n c : Nat} {b' : Bool} {A' : Option Addr} {n' c' : Nat} {q : Rat} (h : RS w b A n c b' A' n' c' q) (he : DigKeep w w') : RS w' b A n c b' A' n' c' q := ⟨h.num.dk he, h.den.dk he⟩
theorem RV.dk {w w' : World} {v : Value} {q : Rat} (h : RV w v q) (he : DigKeep w w') : RV w' v q := by
  obtain ⟨b, A, n, c, b', A', n', c', e, h⟩ := h
  exact ⟨b, A, n, c, b', A', n', c', e, h.dk he⟩
theorem NoDig.ext {w w' : World} {g : Nat} (h : NoDig w g) (hg : g < w.heap.size) (he : Ext w w') : NoDig w' g := fun i d => by
  rw [World.cell?_of_block (Below.block he.1 g hg)]; exact h i d
theorem NoDig.of_block {w w' : World} {g : Nat} (h : NoDig w g) (he : w'.heap[g]? = w.heap[g]?) : NoDig w' g := fun i d => by
  rw [World.cell?_of_block he]; exact h i d
/-! ## a rational in its words -/
structure RQ where
  b : Bool
  A : Option Addr
  n : Nat
  c : Nat
  b' : Bool
  A' : Option Addr
  n' : Nat
  c' : Nat
  q : Rat
instance : Inhabited RQ := ⟨⟨false, none, 0, 0, false, none, 0, 0, 0⟩⟩
def RQ.ws (x : RQ) : List Value := [.bool x.b, .slice x.A x.n x.c, .bool x.b', .slice x.A' x.n' x.c']
def RQ.v (x : RQ) : Value := .agg #[.bool x.b, .slice x.A x.n x.c, .bool x.b', .slice x.A' x.n' x.c']
def RQ.At (w : World) (x : RQ) : Prop := RS w x.b x.A x.n x.c x.b' x.A' x.n' x.c' x.q
theorem RQ.At.ext {w w' : World} {x : RQ} (h : x.At w) (he : Ext w w') : x.At w' := RS.ext h he
theorem RQ.At.dk {w w' : World} {x : RQ} (h : x.At w) (he : DigKeep w w') : x.At w' := RS.dk h he
theorem RQ.At.rv {w : World} {x : RQ} (h : x.At w) : RV w x.v x.q := ⟨_, _, _, _, _, _, _, _, rfl, h⟩
theorem RV.rq {w : World} {v : Value} {q : Rat} (h : RV w v q) : ∃ x : RQ, v = x.v ∧ x.q = q ∧ x.At w := by
  obtain ⟨b, A, n, c, b', A', n', c', e, h⟩ := h
  exact ⟨⟨b, A, n, c, b', A', n', c', q⟩, e, rfl, h⟩
theorem RQ.ws_nodig (x : RQ) : ∀ u ∈ x.ws, ∀ d : Int, u ≠ .int .u32 d := by
  intro u hu d
  simp only [RQ.ws, List.mem_cons, List.not_mem_nil, or_false] at hu
  rcases hu with rfl | rfl | rfl | rfl <;> simp
def ratE : EL Tryz.prog RQ where
  enc := RQ.ws
  size := 4
  t := 29
  st := 81
  zero := .agg #[.bool false, .slice none 0 0, .bool false, .slice none 0 0]
  bytes := 64
  len := fun _ => rfl
  one := fun x v hv => by
    simp only [RQ.ws, List.mem_cons, List.not_mem_nil, or_false] at hv
    rcases hv with rfl | rfl | rfl | rfl <;> rfl
  pos := by decide
  und := Tryz.underlying81
  info := by kernel_rfl
  zsize := by kernel_rfl
  small := by decide
/-! ## rows whose block holds no digits -/
/-- elements and fresh elements hold no digits themselves -/
structure Clean {α : Type} (E : EL Tryz.prog α) : Prop where
  enc : ∀ x, ∀ u ∈ E.enc x, ∀ d : Int, u ≠ .int .u32 d
  zero : ∀ u ∈ E.zero.cells.toList, ∀ d : Int, u ≠ .int .u32 d
theorem ratE_clean : Clean ratE := ⟨fun x u hu d => x.ws_nodig u hu d, fun u hu d => by
  simp only [ratE, Value.cells] at hu
  simp at hu
  rcases hu with rfl | rfl | rfl | rfl <;> simp⟩
section
variable {α : Type} {E : EL Tryz.prog α}
theorem Clean.cells (hc : Clean E) (l : List α) : ∀ u ∈ E.cells l, ∀ d : Int, u ≠ .int .u32 d := fun u hu d => by
  obtain ⟨x, _, hx⟩ := List.mem_flatMap.1 hu
  exact hc.enc x u hx d
theorem Clean.zeros (hC : Clean E) (n : Nat) : ∀ u ∈ (Builtin.zeroCells E.zero.cells n).toList, ∀ d : Int, u ≠ .int .u32 d := fun u hu d => by
  rw [Array.mem_toList_iff] at hu
  unfold Builtin.zeroCells at hu
  obtain ⟨i, _, rfl⟩ := Array.mem_map.1 hu
  have hp : 0 < E.zero.cells.size := by rw [E.zsize]; exact E.pos
  have hlt := Nat.mod_lt i hp
  rw [getElem!_pos E.zero.cells _ hlt]
  exact hC.zero _ (Array.mem_toList_iff.2 (Array.getElem_mem hlt)) d
theorem nodig_list {w : World} {g : Nat} {t : TypeId} {cs : Array Value} (h : w.heap[g]? = some (.cells cs t (0, 0))) (hc : ∀ u ∈ cs.toList, ∀ d : Int, u ≠ .int .u32 d) : NoDig w g :=
  NoDig.box (show Box w g t cs from h) fun i d e => hc _ (Array.mem_toList_iff.2 (Array.mem_of_getElem? e)) d rfl
/-- an append keeps the row clean -/
theorem EL.app_clean (hC : Clean E) {w : World} {base : Nat} {v sv : Value} {l m : List α} (ty : TypeId) (hown : E.Own w base v l) (hnd : ∀ g, v.ownBlock = some g → NoDig w g) (hm : E.Row w sv m) (hb : l.length + m.length ≤ 1000000000) (hbase : base ≤ w.heap.size) :
    ∃ v' w', (Builtin.append_ #[E.st, E.st] ty #[v, sv]).run Tryz.prog w = .ok v' w' ∧ E.Own w' base v' (l ++ m) ∧ Grown w w' v.ownBlock ∧ (v' = v ∨ v'.ownBlock = v.ownBlock ∨ v'.ownBlock = some w.heap.size) ∧ (∀ g, v'.ownBlock = some g → NoDig w' g) := by
  obtain ⟨v', w', hr, k1, k2, k3⟩ := EL.app (E := E) ty hown hm hb hbase
  refine ⟨v', w', hr, k1, k2, k3, ?_⟩
  obtain ⟨i0, hi, hz0, hz1, hz2⟩ := info_parts E.info
  have hC1 := hC.cells l
  have hC2 := hC.cells m
  obtain ⟨h1, h2, ⟨⟨c, rfl⟩, h0⟩ | ⟨ad, c, rfl, h3⟩⟩ := hm.src
  · have e : m = [] := List.eq_nil_of_length_eq_zero h0
    subst e
    have e2 : v' = v ∧ w' = w := by
      rcases hown.2 with ⟨rfl, h0⟩ | ⟨g, cap, cur, rfl, _, _, hnc, _⟩
      · simp [Builtin.append_, run_underlying E.und, sizeOf, typeInfo, hi, Builtin.lenOf, Builtin.firstCells] at hr
        exact ⟨hr.1.symm, hr.2.symm⟩
      · simp [Builtin.append_, run_underlying E.und, sizeOf, typeInfo, hi, Builtin.lenOf, Builtin.firstCells, hnc, storeCells] at hr
        exact ⟨hr.1.symm, hr.2.symm⟩
    obtain ⟨rfl, rfl⟩ := e2
    exact hnd
  · have hbytes : (l.length + m.length) * E.bytes ≤ 140737488355328 := Nat.le_trans (Nat.mul_le_mul hb E.small) (by decide)
    rcases hown.2 with ⟨rfl, hl0⟩ | ⟨g, cap, cur, rfl, hbg, hg, hnc, hcm, hcs, htake⟩
    · have e : l = [] := List.eq_nil_of_length_eq_zero hl0
      subst e
      by_cases hm0 : m.length = 0
      · have e : m = [] := List.eq_nil_of_length_eq_zero hm0
        subst e
        simp [Builtin.append_, run_underlying E.und, sizeOf, typeInfo, hi, Builtin.lenOf, Builtin.firstCells, loadCells, loadCellsFrom] at hr
        obtain ⟨rfl, rfl⟩ := hr
        intro g hg
        cases hg
      · have hr2 := run_append_nil (P := Tryz.prog) w E.st ty E.t i0 _ E.und hi hz0 ad m.length c (E.cells m) (by rw [hz1]; exact h1) h3 (by omega) (by omega) (by rw [hz2]; simp at hbytes; omega)
        rw [hr2] at hr
        injection hr with e1 e2
        subst e1 e2
        intro g hg
        simp only [Value.ownBlock, Option.some.injEq] at hg
        subst hg
        refine nodig_list (heap_alloc_new w.drew _) fun u hu d => ?_
        simp only [Array.toList_append, List.mem_append] at hu
        rcases hu with hu | hu
        · exact hC2 u (by simpa using hu) d
        · exact hC.zeros _ u hu d
    · by_cases hroom : l.length + m.length ≤ cap
      · have hfit : l.length * i0.size + (E.cells m).length ≤ cur.size := by rw [hz1, h1, hcs, ← Nat.add_mul]; exact Nat.mul_le_mul_right _ hroom
        have hr2 := run_append_room (P := Tryz.prog) w E.st ty E.t i0 E.und hi g l.length cap cur hg ad m.length c (E.cells m) (by rw [hz1]; exact h1) h3 h2 hroom hfit
        rw [hr2] at hr
        injection hr with e1 e2
        subst e1 e2
        intro g' hg'
        simp only [Value.ownBlock, Option.some.injEq] at hg'
        subst hg'
        have hn := hnd g rfl
        have hcur : ∀ u ∈ cur.toList, ∀ d : Int, u ≠ .int .u32 d := fun u hu d e => by
          obtain ⟨j, hj⟩ := List.mem_iff_getElem?.1 hu
          refine hn j d ?_
          rw [Box.cell (show Box w g E.t cur from hg), ← Array.getElem?_toList, hj, e]
        refine nodig_list (setRow_heap w g cur _ E.t _ hg) fun u hu d => ?_
        simp only [List.mem_append] at hu
        rcases hu with (hu | hu) | hu
        · exact hcur u (List.mem_of_mem_take hu) d
        · exact hC2 u hu d
        · exact hcur u (List.mem_of_mem_drop hu) d
      · have holds : ∀ j u, (E.cells l)[j]? = some u → w.cell? ((⟨g, 0, none⟩ : Addr).add j) = some u := World.ownsRow.cells hown (g := g) rfl
        have hr2 := run_append_grow (P := Tryz.prog) w E.st ty E.t i0 _ E.und hi hz0 ⟨g, 0, none⟩ l.length cap (E.cells l) (by rw [E.cells_length, hz1]) holds ad m.length c (E.cells m) (by rw [hz1]; exact h1) h3 (by omega) (by omega) (growslice_fits (by omega) (by rw [hz2]; exact hbytes))
        rw [hr2] at hr
        injection hr with e1 e2
        subst e1 e2
        intro g' hg'
        simp only [Value.ownBlock, Option.some.injEq] at hg'
        subst hg'
        refine nodig_list (heap_alloc_new w.drew _) fun u hu d => ?_
        simp only [Array.toList_append, List.mem_append] at hu
        rcases hu with (hu | hu) | hu
        · exact hC1 u (by simpa using hu) d
        · exact hC2 u (by simpa using hu) d
        · exact hC.zeros _ u hu d
end
/-- a row of the call's own whose block holds no digits -/
structure OwnC {α : Type} (E : EL Tryz.prog α) (w : World) (base : Nat) (v : Value) (l : List α) : Prop where
  own : E.Own w base v l
  nod : ∀ g, v.ownBlock = some g → NoDig w g
section
variable {α : Type} {E : EL Tryz.prog α}
theorem OwnC.nil (w : World) (base : Nat) : OwnC E w base (.slice none 0 0) [] := ⟨EL.Own.nil _ _, fun g h => by cases h⟩
theorem OwnC.lt {w : World} {base : Nat} {v : Value} {l : List α} (h : OwnC E w base v l) {g : Nat} (hg : v.ownBlock = some g) : base ≤ g ∧ g < w.heap.size := World.ownsRow.lt h.own g hg
theorem OwnC.ext {w w' : World} {base : Nat} {v : Value} {l : List α} (h : OwnC E w base v l) (he : Ext w w') : OwnC E w' base v l := ⟨h.own.ext he, fun g hg => (h.nod g hg).ext (h.lt hg).2 he⟩
theorem OwnC.lower {w : World} {B B' : Nat} {v : Value} {l : List α} (h : OwnC E w B v l) (hb : B' ≤ B) : OwnC E w B' v l := ⟨h.own.lower hb, h.nod⟩
theorem OwnC.kept {w w' : World} {base : Nat} {v : Value} {l : List α} {row : Option Nat} (h : OwnC E w base v l) (hg : w.grownBy w' row) (hne : v.ownBlock = none ∨ v.ownBlock ≠ row) : OwnC E w' base v l :=
  ⟨World.ownsRow.kept h.own hg hne, fun g hgb => (h.nod g hgb).of_block (hg.block g (h.lt hgb).2 (by rcases hne with e | e; rw [e] at hgb; cases hgb; exact fun e' => e (hgb.trans e')))⟩
theorem OwnC.dk {w w' : World} {base : Nat} {v : Value} {l : List α} (h : OwnC E w base v l) (hg : w.grownBy w' v.ownBlock) : DigKeep w w' := DigKeep.grown hg h.nod
theorem OwnC.but {w w' : World} {B g : Nat} {v : Value} {l : List α} (h : OwnC E w B v l) (hb : But g w w') (hg : v.ownBlock ≠ some g) : OwnC E w' B v l :=
  h.kept (row := some g) ⟨hb.os, hb.tape, hb.output, hb.size, fun k hk hne => hb.block k hk (fun e => hne (by rw [e]))⟩ (.inr hg)
theorem OwnC.wpApp {w : World} {ops : Array Oper} {rest : List Oper} {o : Oper} {a : Act} {Q : Exit → Act → World → Prop} (E : EL Tryz.prog α) (hC : Clean E) (hgd : o.guard = none) (s x : Operand)
    (ho : o.op = .call { callee := .builtin .append, args := #[s, x], argTypes := #[E.st, E.st] }) (base : Nat) (v sv : Value) (l m : List α)
    (hs : a.eval s = v) (hx : a.eval x = sv) (hown : OwnC E w base v l) (hm : E.Row w sv m) (hb : l.length + m.length ≤ 1000000000) (hbase : base ≤ w.heap.size)
    (h : ∀ v' w', OwnC E w' base v' (l ++ m) → Grown w w' v.ownBlock → DigKeep w w' → wpList Tryz.prog ops Q rest (a.put o.dst v') w') : wpList Tryz.prog ops Q (o :: rest) a w := by
  obtain ⟨v', w', hr, h2, h3, h4, h5⟩ := EL.app_clean (E := E) hC o.type hown.own hown.nod hm hb hbase
  exact Lib.wpList_append_run _ hgd _ _ _ _ ho _ _ hs hx _ _ hr (h v' w' ⟨h2, h5⟩ h3 (hown.dk h3.1))
end
theorem growExtC {α : Type} {E : EL Tryz.prog α} {w0 w w' : World} {base : Nat} {v : Value} {l : List α} (h : Ext w0 w) (hown : OwnC E w base v l) (hb : w0.heap.size ≤ base) (hg : Grown w w' v.ownBlock) : Ext w0 w' := growExt h hown.own hb hg
end Go.Proofs.YtodefmfgoehkhaaGreat
