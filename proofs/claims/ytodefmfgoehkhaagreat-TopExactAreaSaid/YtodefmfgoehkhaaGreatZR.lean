/- Texts put together: TxH, TxI. -/
import Derived.Test.YtodefmfgoehkhaaGreatZQ
import Derived.Test.YtodefmfgoehkhaaGreatZC
import Derived.Laws.EntriesVeiled
/- intersect.EventYs. -/
set_option linter.unusedVariables false
set_option linter.unusedSimpArgs false
namespace Go.Proofs.YtodefmfgoehkhaaGreat
open Go.RowKit Go.Par Go.Shelf Go.TN
open Go.TA (E2 ratI alongR yAtR xAt crosses crossI segN segT segS Adds Within EndOk SideOk MeetOk EvLog Events)
attribute [local go_sem] Oper.semAt_some

/-! ## edges in a row -/
def edgE : EL Tryz.prog E2 where
  enc := fun e => [.int .i64 e.1.1, .int .i64 e.1.2, .int .i64 e.2.1, .int .i64 e.2.2]
  size := 4
  t := 121
  st := 114
  zero := .agg #[.int .i64 0, .int .i64 0, .int .i64 0, .int .i64 0]
  bytes := 32
  len := fun _ => rfl
  one := fun x v hv => by simp at hv; rcases hv with rfl | rfl | rfl | rfl <;> rfl
  pos := by decide
  und := Tryz.underlying114
  info := by kernel_rfl
  zsize := rfl
  small := by decide
theorem edgE_clean : Clean edgE := ⟨fun x u hu d => by simp [edgE] at hu; rcases hu with rfl | rfl | rfl | rfl <;> simp, fun u hu d => by simp [edgE, Value.cells] at hu; rw [hu]; simp⟩
theorem edg_one {w : World} {b : Nat} (e : E2) (h : Box w b 121 #[.int .i64 e.1.1, .int .i64 e.1.2, .int .i64 e.2.1, .int .i64 e.2.2]) : edgE.Row w (.slice (some ⟨b, 0, none⟩) 1 1) [e] :=
  ⟨_, _, rfl, Nat.le_refl _, (by simp), EL.At.box h fun j v hv => by simpa [EL.cells, edgE] using hv⟩
theorem wpListIn_append_run {F : Fence} {n : Nat} {P : Program} (w : World) {ops : Array Oper} {rest : List Oper} {o : Oper} {a : Act} {Q : Exit → Act → World → Prop}
    (hg : o.guard = none) (s x : Operand) (t : TypeId) (hop : o.op = Op.call { callee := Callee.builtin Builtin.append, args := #[s, x], argTypes := #[t, t] })
    (v sv v' : Value) (w' : World) (hs : a.eval s = v) (hx : a.eval x = sv) (hr : (Builtin.append_ #[t, t] o.type #[v, sv]).run P w = .ok v' w') (h : wpListIn F n P ops Q rest (a.put o.dst v') w') : wpListIn F n P ops Q (o :: rest) a w := by
  refine wpListIn_plain hg fun K hK' => ?_
  unfold Oper.wpIn
  refine ⟨?_, ?_⟩
  · simp [Oper.about, hop, resolve, Target.leads, Sem.run_pure]
  · rw [Oper.semAt_plain F _ _ (by rw [hop]; intro c hc'; cases hc')]
    simp [execOp, hop, resolve, invoke, builtin, hs, hx, hr, Result.andThen]
    exact hK' _ _ h
theorem OwnC.wpAppIn {α : Type} {F : Fence} {n : Nat} {w : World} {ops : Array Oper} {rest : List Oper} {o : Oper} {a : Act} {Q : Exit → Act → World → Prop} (E : EL Tryz.prog α) (hC : Clean E) (hgd : o.guard = none) (s x : Operand)
    (ho : o.op = .call { callee := .builtin .append, args := #[s, x], argTypes := #[E.st, E.st] }) (base : Nat) (v sv : Value) (l m : List α)
    (hs : a.eval s = v) (hx : a.eval x = sv) (hown : OwnC E w base v l) (hm : E.Row w sv m) (hb : l.length + m.length ≤ 1000000000) (hbase : base ≤ w.heap.size)
    (h : ∀ v' w', OwnC E w' base v' (l ++ m) → Grown w w' v.ownBlock → DigKeep w w' → (v'.ownBlock = v.ownBlock ∨ v'.ownBlock = some w.heap.size) → wpListIn F n Tryz.prog ops Q rest (a.put o.dst v') w') : wpListIn F n Tryz.prog ops Q (o :: rest) a w := by
  obtain ⟨v', w', hr, h2, h3, h4, h5⟩ := EL.app_clean (E := E) hC o.type hown.own hown.nod hm hb hbase
  exact wpListIn_append_run w hgd s x E.st ho v sv v' w' hs hx hr (h v' w' ⟨h2, h5⟩ h3 (hown.dk h3.1) (h4.elim (fun e => .inl (by rw [e])) id))
theorem with_tmps {F : Fence} {n : Nat} {P : Program} {c : Code} {Q : Exit → Act → World → Prop} {T : Array Value} {d : List Deferred} {w : World} (h : ∀ T', T' = T → c.wpIn F n P Q { tmps := T', defers := d } w) : c.wpIn F n P Q { tmps := T, defers := d } w := h T rfl

/-! ## the state of EventYs -/
abbrev RQ.cs (x : RQ) : Array Value := #[.bool x.b, .slice x.A x.n x.c, .bool x.b', .slice x.A' x.n' x.c']
structure EvSt (w : World) (B g7 g8 bo gf : Nat) (a b : P2) (lo hi : RQ) (X : World) (v : Value) (l : List RQ) : Prop where
  ext : Ext w X
  xa : Box X w.heap.size 49 #[.int .i64 a.1, .int .i64 a.2]
  xb : Box X (w.heap.size + 1) 49 #[.int .i64 b.1, .int .i64 b.2]
  x7 : Box X g7 29 lo.cs
  x8 : Box X g8 29 hi.cs
  xf : Box X gf 113 #[.func (.func 71) #[] #[.pointer (some ⟨g7, 0, none⟩), .pointer (some ⟨g8, 0, none⟩), .pointer (some ⟨bo, 0, none⟩)]]
  xo : Box X bo 81 #[v]
  own : OwnC ratE X B v l
  hl : ∀ x ∈ l, x.At X ∧ Sz 7 x.q
  h7 : lo.At X
  h8 : hi.At X
/-- how the blocks lie -/
structure EvFix (w : World) (B g7 g8 bo gf : Nat) (lo hi : RQ) : Prop where
  h0 : w.heap.size + 2 ≤ B
  h7 : g7 < B
  h8 : g8 < B
  ho : B ≤ bo
  n7 : g7 ≠ w.heap.size ∧ g7 ≠ w.heap.size + 1
  n8 : g8 ≠ w.heap.size ∧ g8 ≠ w.heap.size + 1
  nf : gf ≠ bo
  s7 : Sz 2 lo.q
  s8 : Sz 2 hi.q
section
variable {w X Y : World} {B g7 g8 bo gf : Nat} {a b : P2} {lo hi : RQ} {v : Value} {l : List RQ}
theorem EvSt.to (h : EvSt w B g7 g8 bo gf a b lo hi X v l) (he : Ext X Y) : EvSt w B g7 g8 bo gf a b lo hi Y v l :=
  ⟨h.ext.trans he, h.xa.ext he, h.xb.ext he, h.x7.ext he, h.x8.ext he, h.xf.ext he, h.xo.ext he, h.own.ext he, fun x hx => ⟨(h.hl x hx).1.ext he, (h.hl x hx).2⟩, h.h7.ext he, h.h8.ext he⟩
theorem EvSt.row (h : EvSt w B g7 g8 bo gf a b lo hi X v l) {g : Nat} (e : v.ownBlock = some g) : B ≤ g ∧ g < X.heap.size := h.own.lt e
theorem EvSt.step (hf : EvFix w B g7 g8 bo gf lo hi) (h : EvSt w B g7 g8 bo gf a b lo hi X v l) {v' : Value} {l' : List RQ} (hs : Stp bo v.ownBlock X Y) (xo : Box Y bo 81 #[v']) (own : OwnC ratE Y B v' l') (hl : ∀ x ∈ l', x.At Y ∧ Sz 7 x.q) : EvSt w B g7 g8 bo gf a b lo hi Y v' l' := by
  have hr : ∀ g, v.ownBlock = some g → B ≤ g := fun g e => (h.row e).1
  have hne : ∀ k, k < B → v.ownBlock ≠ some k := fun k hk e => by have := hr k e; omega
  have h0 := hf.h0
  have ho := hf.ho
  exact ⟨hs.ext h.ext (by omega) (fun g e => by have := hr g e; omega), hs.box h.xa (by omega) (hne _ (by omega)), hs.box h.xb (by omega) (hne _ (by omega)), hs.box h.x7 (by have := hf.h7; omega) (hne _ hf.h7), hs.box h.x8 (by have := hf.h8; omega) (hne _ hf.h8),
    hs.box h.xf hf.nf (h.own.ne_box h.xf (by decide)), xo, own, hl, h.h7.dk hs.dig, h.h8.dk hs.dig⟩
/-- what the closure put does to the state -/
def EvPut (w : World) (B g7 g8 bo gf : Nat) (a b : P2) (lo hi : RQ) (X : World) (v : Value) (l : List RQ) (y : Rat) (e : Ending) (Y : World) : Prop := e = .returned (.tuple #[]) ∧ ∃ v' l', EvSt w B g7 g8 bo gf a b lo hi Y v' l' ∧ Stp bo v.ownBlock X Y ∧ (v'.ownBlock = v.ownBlock ∨ ∃ g, v'.ownBlock = some g ∧ X.heap.size ≤ g) ∧
  Adds lo.q hi.q (l.map (·.q)) y (l'.map (·.q))
theorem EvSt.put (hf : EvFix w B g7 g8 bo gf lo hi) (h : EvSt w B g7 g8 bo gf a b lo hi X v l) {u : Value} {y : Rat} (hu : RV X u y) (sy : Sz 7 y) (hl : l.length ≤ 100000000) :
    Calls Tryz.prog 71 #[u, .pointer (some ⟨g7, 0, none⟩), .pointer (some ⟨g8, 0, none⟩), .pointer (some ⟨bo, 0, none⟩)] X (EvPut w B g7 g8 bo gf a b lo hi X v l y) := by
  have hB : B ≤ X.heap.size := by have := h.xo.lt; have := hf.ho; omega
  refine (put_any h.x7 h.x8 h.xo h.own h.h7 h.h8 hu hf.s7 hf.s8 sy (by omega) hl hB).mono ?_
  rintro e Y ⟨rfl, v', l', hs, xo, own, hr, hadd⟩
  have hl0 : ∀ x ∈ l, x.At Y ∧ Sz 7 x.q := fun x hx => ⟨(h.hl x hx).1.dk hs.dig, (h.hl x hx).2⟩
  refine ⟨rfl, v', l', h.step hf hs xo own ?_, hs, hr, ?_⟩
  · rcases hadd with ⟨_, _, x, hx, rfl, rfl⟩ | ⟨_, rfl⟩
    · intro z hz
      rcases List.mem_append.1 hz with hz | hz
      · exact hl0 z hz
      · rw [List.mem_singleton] at hz; subst hz; exact ⟨hx, sy⟩
    · exact hl0
  · rcases hadd with ⟨h1, h2, x, hx, rfl, rfl⟩ | ⟨h1, rfl⟩
    · exact .inl ⟨h1, h2, by rw [List.map_append]; rfl⟩
    · exact .inr ⟨h1, rfl⟩
end
/-! ## a round over an edge -/
theorem _root_.Go.Par.Box.ne {X : World} {b c : Nat} {t t' : TypeId} {cs cs' : Array Value} (h : Box X b t cs) (k : Box X c t' cs') (ht : t ≠ t') : b ≠ c := fun e => by
  subst e
  unfold Box at h k
  rw [h] at k
  simp only [Option.some.injEq, Obj.cells.injEq] at k
  exact ht k.2.1
theorem _root_.Go.Par.Box.turn {X Y : World} {b : Nat} {t : TypeId} {cs : Array Value} {row : Option Nat} {c0 : Nat} (h : Box X b t cs) (hg : Grown X Y row) (hr : ∀ r, row = some r → c0 ≤ r ∧ ∃ o : Obj, X.heap[r]? = some o ∧ o.isCells = false) : Box Y b t cs :=
  (hg.block b h.lt (fun e => by
    obtain ⟨_, o, ho, hc⟩ := hr b e.symm
    rw [show X.heap[b]? = _ from h] at ho
    injection ho with ho
    subst ho
    cases hc)).trans h
theorem OwnC.of_block {α : Type} {E : EL Tryz.prog α} {X Y : World} {B : Nat} {v : Value} {l : List α} (h : OwnC E X B v l) (hb : ∀ g, v.ownBlock = some g → Y.heap[g]? = X.heap[g]?) : OwnC E Y B v l := by
  refine ⟨⟨h.own.1, ?_⟩, fun g hg => (h.nod g hg).of_block (hb g hg)⟩
  rcases h.own.2 with h0 | ⟨g, cap, cur, e, hg, h2, h3⟩
  · exact .inl h0
  · exact .inr ⟨g, cap, cur, e, hg, (hb g (by rw [e]; rfl)).trans h2, h3⟩
theorem OwnC.box {α : Type} {E : EL Tryz.prog α} {X : World} {B g : Nat} {v : Value} {l : List α} (h : OwnC E X B v l) (hg : v.ownBlock = some g) : ∃ cur, Box X g E.t cur := by
  rcases h.own.2 with ⟨e, _⟩ | ⟨g', cap, cur, e, _, h2, _⟩
  · rw [e] at hg; cases hg
  · rw [e] at hg
    simp only [Value.ownBlock, Option.some.injEq] at hg
    subst hg
    exact ⟨cur, h2⟩
theorem OwnC.turn {α : Type} {E : EL Tryz.prog α} {X Y : World} {B : Nat} {v : Value} {l : List α} {row : Option Nat} {c0 : Nat} (h : OwnC E X B v l) (hg : Grown X Y row) (hr : ∀ r, row = some r → c0 ≤ r ∧ ∃ o : Obj, X.heap[r]? = some o ∧ o.isCells = false) : OwnC E Y B v l :=
  h.of_block fun g e => by
    obtain ⟨cur, hb⟩ := h.box e
    exact (Box.turn hb hg hr).trans hb.symm
theorem dig_turn {X Y : World} {row : Option Nat} {c0 : Nat} (hg : Grown X Y row) (hr : ∀ r, row = some r → c0 ≤ r ∧ ∃ o : Obj, X.heap[r]? = some o ∧ o.isCells = false) : DigKeep X Y :=
  DigKeep.grown hg.1 fun g e i d hc => by
    obtain ⟨_, o, ho, hn⟩ := hr g e
    unfold World.cell? at hc
    rw [ho] at hc
    cases o with
    | cells c t f => cases hn
    | _ => cases hc
theorem ext_turn {w X Y : World} {row : Option Nat} {c0 : Nat} (h : Ext w X) (hc : w.heap.size ≤ c0) (hg : Grown X Y row) (hr : ∀ r, row = some r → c0 ≤ r ∧ ∃ o : Obj, X.heap[r]? = some o ∧ o.isCells = false) : Ext w Y :=
  ⟨⟨hg.os.trans (Below.os h.1), hg.tape.trans (Below.tape h.1), hg.output.trans (Below.output h.1), Nat.le_trans h.size hg.size, fun i hi => (hg.block i (Nat.lt_of_lt_of_le hi h.size) (fun e => by have := (hr i e.symm).1; omega)).trans (Below.block h.1 i hi)⟩, Nat.le_trans h.2 hg.drawn⟩
theorem Stp.keeps {α : Type} {E : EL Tryz.prog α} {X Y : World} {bo B : Nat} {v u : Value} {l : List α} {t : TypeId} (hs : Stp bo v.ownBlock X Y) (xo : Box X bo t #[u]) (own : OwnC E X B v l) : KeepsOthers X Y :=
  ⟨hs.size, fun k o hk ho => (hs.block k (Array.getElem?_eq_some_iff.1 hk).1 (fun e => by
    subst e
    rw [show X.heap[k]? = _ from xo] at hk
    injection hk with hk
    subst hk
    cases ho) (fun e => by
    obtain ⟨cur, hb⟩ := own.box e
    rw [show X.heap[k]? = _ from hb] at hk
    injection hk with hk
    subst hk
    cases ho)).trans hk⟩
theorem _root_.Go.Par.Ext.keeps {X Y : World} (h : Ext X Y) : KeepsOthers X Y := ⟨h.size, fun k o hk _ => (Below.block h.1 k (Array.getElem?_eq_some_iff.1 hk).1).trans hk⟩
section
variable {w X Y Z : World} {B g7 g8 bo gf : Nat} {a b : P2} {lo hi : RQ} {v : Value} {l : List RQ} {p0 p1 be Bp Bq : Nat} {ve : Value} {pre : List E2} {x : E2}
/-- what lies in a round: p0, p1: where the iterator's memory lies -/
structure EvR (w : World) (B g7 g8 bo gf : Nat) (a b : P2) (lo hi : RQ) (p0 p1 be Bp Bq : Nat) (ve : Value) (pre : List E2) (x : E2) (Z X : World) (v : Value) (l : List RQ) : Prop where
  st : EvSt w B g7 g8 bo gf a b lo hi X v l
  xe : Box X be 114 #[ve]
  oe : OwnC edgE X p1 ve pre
  xp : Box X Bp 49 #[.int .i64 x.1.1, .int .i64 x.1.2]
  xq : Box X Bq 49 #[.int .i64 x.2.1, .int .i64 x.2.2]
  ko : KeepsOthers Z X
  mid : Mid p0 p1 Z X
  row : ∀ g, v.ownBlock = some g → g < p0 ∨ p1 ≤ g
  size : p1 ≤ X.heap.size
theorem EvR.to (h : EvR w B g7 g8 bo gf a b lo hi p0 p1 be Bp Bq ve pre x Z X v l) (he : Ext X Y) : EvR w B g7 g8 bo gf a b lo hi p0 p1 be Bp Bq ve pre x Z Y v l :=
  ⟨h.st.to he, h.xe.ext he, h.oe.ext he, h.xp.ext he, h.xq.ext he, h.ko.trans he.keeps, h.mid.trans (Mid.ext he h.size), h.row, Nat.le_trans h.size he.size⟩
theorem EvR.put (h : EvR w B g7 g8 bo gf a b lo hi p0 p1 be Bp Bq ve pre x Z X v l) (hbo : bo < p0) {v' : Value} {l' : List RQ} (st : EvSt w B g7 g8 bo gf a b lo hi Y v' l') (hs : Stp bo v.ownBlock X Y) (hr : v'.ownBlock = v.ownBlock ∨ ∃ g, v'.ownBlock = some g ∧ X.heap.size ≤ g) :
    EvR w B g7 g8 bo gf a b lo hi p0 p1 be Bp Bq ve pre x Z Y v' l' := by
  refine ⟨st, hs.box h.xe (Box.ne h.xe h.st.xo (by decide)) (h.st.own.ne_box h.xe (by decide)), h.oe.of_block fun g e => ?_, hs.box h.xp (Box.ne h.xp h.st.xo (by decide)) (h.st.own.ne_box h.xp (by decide)), hs.box h.xq (Box.ne h.xq h.st.xo (by decide)) (h.st.own.ne_box h.xq (by decide)),
    h.ko.trans (hs.keeps h.st.xo h.st.own), h.mid.trans (hs.mid h.size (.inl hbo) h.row), fun g e => ?_, Nat.le_trans h.size hs.size⟩
  · obtain ⟨cur, hb⟩ := h.oe.box e
    exact hs.block g hb.lt (Box.ne hb h.st.xo (by decide)) (h.st.own.ne_box hb (by decide))
  · rcases hr with e' | ⟨g', e', hg'⟩
    · exact h.row g (e'.symm.trans e)
    · rw [e'] at e
      injection e with e
      subst e
      exact .inr (Nat.le_trans h.size hg')
/-- a step that writes the row of edges -/
theorem EvSt.edge (h : EvSt w B g7 g8 bo gf a b lo hi X v l) (xe : Box X be 114 #[ve]) (oe : OwnC edgE X p1 ve pre) (hs : Stp be ve.ownBlock X Y) (h1 : w.heap.size ≤ be) (h2 : w.heap.size ≤ p1) : EvSt w B g7 g8 bo gf a b lo hi Y v l := by
  have bx : ∀ {c : Nat} {t : TypeId} {cs : Array Value}, Box X c t cs → t ≠ 114 → t ≠ 121 → Box Y c t cs := fun hb n1 n2 => hs.box hb (Box.ne hb xe n1) (oe.ne_box hb n2)
  refine ⟨hs.ext h.ext h1 (fun g e => Nat.le_trans h2 (oe.lt e).1), bx h.xa (by decide) (by decide), bx h.xb (by decide) (by decide), bx h.x7 (by decide) (by decide), bx h.x8 (by decide) (by decide), bx h.xf (by decide) (by decide), bx h.xo (by decide) (by decide), h.own.of_block fun g e => ?_,
    fun x hx => ⟨(h.hl x hx).1.dk hs.dig, (h.hl x hx).2⟩, h.h7.dk hs.dig, h.h8.dk hs.dig⟩
  obtain ⟨cur, hb⟩ := h.own.box e
  exact (bx hb (by decide) (by decide)).trans hb.symm
/-- what holds between the rounds -/
def EvI (w : World) (L : List (List P2)) (B g7 g8 bo gf : Nat) (a b : P2) (lo hi : RQ) (p0 p1 be : Nat) (pre : List E2) (X : World) : Prop := ∃ v l ve, EvSt w B g7 g8 bo gf a b lo hi X v l ∧ Box X be 114 #[ve] ∧ OwnC edgE X p1 ve pre ∧ (∀ g, v.ownBlock = some g → g < p0 ∨ p1 ≤ g) ∧ p1 ≤ X.heap.size ∧
  EvLog L a.1 a.2 b.1 b.2 pre (l.map (·.q)) ∧ l.length ≤ 20 + pre.length * 24
theorem ownD_evI (L : List (List P2)) (hw : w.heap.size ≤ p1) : OwnD p1 (EvI w L B g7 g8 bo gf a b lo hi p0 p1 be) := by
  rintro pre X Y row ⟨v, l, ve, st, xe, oe, hrow, hsz, hlog, hlen⟩ hg hr
  have hd := dig_turn hg hr
  exact ⟨v, l, ve, ⟨ext_turn st.ext hw hg hr, st.xa.turn hg hr, st.xb.turn hg hr, st.x7.turn hg hr, st.x8.turn hg hr, st.xf.turn hg hr, st.xo.turn hg hr, st.own.turn hg hr, fun x hx => ⟨(st.hl x hx).1.dk hd, (st.hl x hx).2⟩, st.h7.dk hd, st.h8.dk hd⟩,
    xe.turn hg hr, oe.turn hg hr, hrow, Nat.le_trans hsz hg.size, hlog, hlen⟩
end
theorem edges_in {L : List (List P2)} {p : P2 → Prop} (h : ∀ r ∈ L, ∀ q ∈ r, p q) {e : E2} (he : e ∈ edgesL L) : (∃ r ∈ L, e.1 ∈ r) ∧ (∃ r ∈ L, e.2 ∈ r) := by
  unfold edgesL at he
  obtain ⟨r, hr, he⟩ := List.mem_flatMap.1 he
  have he := (List.mem_filter.1 he).1
  unfold edgesS at he
  have h1 := List.of_mem_zip (a := e.1) (b := e.2) he
  refine ⟨⟨r, hr, h1.1⟩, r, hr, ?_⟩
  rcases List.mem_append.1 h1.2 with k | k
  · exact List.mem_of_mem_drop k
  · exact List.mem_of_mem_take k
theorem edgesL_length (L : List (List P2)) : (edgesL L).length ≤ lenS L := by
  induction L with
  | nil => simp [edgesL, lenS]
  | cons r L ih =>
    have h1 : (edgesL (r :: L)).length = (ringE r).length + (edgesL L).length := by unfold edgesL; rw [List.flatMap_cons, List.length_append]
    have h2 : (ringE r).length ≤ r.length := by
      unfold ringE
      have := List.length_filter_le proper (edgesS r)
      rwa [edgesS_length] at this
    have h3 : lenS (r :: L) = r.length + lenS L := by unfold lenS; simp
    omega
end Go.Proofs.YtodefmfgoehkhaaGreat

/- intersect.EventYs, walked. -/
set_option linter.unusedVariables false
set_option linter.unusedSimpArgs false
namespace Go.Proofs.YtodefmfgoehkhaaGreat
open Go.RowKit Go.Par Go.Shelf Go.TN
open Go.TA (E2 ratI alongR yAtR xAt crosses crossI segN segT segS Adds Within EndOk SideOk MeetOk EvLog Events)
attribute [local go_sem] Oper.semAt_some

theorem put_enter (args : Array Value) (w : World) : (callFunc 71 args).run Tryz.prog w = .ok (.enter 71 args) w := by kernel_rfl
/-- what EventYs hands back -/
def EvPost (w : World) (L : List (List P2)) (a b : P2) (e : Ending) (w' : World) : Prop := ∃ v l, e = .returned v ∧ Ext w w' ∧ OwnC ratE w' w.heap.size v l ∧ (∀ x ∈ l, x.At w' ∧ Sz 7 x.q) ∧ l.length ≤ 500 ∧
  (a.2 < b.2 → Events (edgesL L) a.1 a.2 b.1 b.2 (l.map (·.q))) ∧ (b.2 ≤ a.2 → l = [])
set_option maxRecDepth 100000 in
set_option maxHeartbeats 1600000 in
theorem EventYs_any (L : List (List P2)) (A : Option Addr) (c : Nat) (a b : P2) (w : World) (hS : lenS L ≤ 18) (hLn : L.length ≤ 1000) (hv : validL L = true) (hL : RingsAt w A L) (ha : InC a) (hb : InC b) :
    Calls Tryz.prog 44 #[.slice A L.length c, ptV a, ptV b] w (EvPost w L a b) := by
  have HV := Lib.hid (fun W (h : Ext w W) => Valid_any L A c W (by omega) (hL.ext h))
  rw [hv] at HV
  have HED := Lib.hid (fun W (h : Ext w W) => Edges_any L A c W (by omega) (by omega) hv (hL.ext h))
  have HL := Lib.hid (fun W (h : Ext w W) => hL.ext h)
  have HIN := Lib.hid (show ∀ r ∈ L, ∀ p ∈ r, InC p from fun r hr p hp => by
    simp only [validL, Bool.and_eq_true, List.all_eq_true] at hv
    exact InC.of (hv.2 r hr p hp))
  obtain ⟨n, hn⟩ : ∃ n, n = L.length := ⟨_, rfl⟩
  rw [← hn] at HV HED hLn ⊢
  have HN := Lib.hid hn
  have HS := Lib.hid hS
  have HA := Lib.hid ha
  have HB := Lib.hid hb
  clear hn hS hv hL ha hb
  obtain ⟨a1, a2⟩ := a
  obtain ⟨b1, b2⟩ := b
  obtain ⟨O1, hO1⟩ : ∃ O, O = Obj.cells #[.int .i64 a1, .int .i64 a2] 49 := ⟨_, rfl⟩
  obtain ⟨O2, hO2⟩ : ∃ O, O = Obj.cells #[.int .i64 b1, .int .i64 b2] 49 := ⟨_, rfl⟩
  have hE := (Ext.alloc w O1).trans (Ext.alloc _ O2)
  have x4 := (Box.new w 49 #[.int .i64 a1, .int .i64 a2]).alloc O2
  have x5 := Box.at1 (w := w) (o := O1) (t := 49) (cs := #[.int .i64 b1, .int .i64 b2])
  rw [← hO1] at x4
  rw [← hO2] at x5
  rw [hO1, hO2] at hE x4 x5
  clear hO1 hO2
  refine (callsIn_wide (n := 20)).1 ?_
  refine callsIn_of_wp_marks Tryz.func44 rfl trivial ?_ rfl
  simp only [Tryz.ntmps44, List.size_toArray, List.length_cons, List.length_nil, Nat.reduceAdd, Nat.reduceSub, Array.replicate_succ, Array.replicate_zero, List.push_toArray, List.append_toArray, List.nil_append, List.cons_append]
  gi_wp2_with fail
  refine ⟨trivial, ?_⟩
  refine (callsIn_wide.2 (HV.out _ hE)).mono ?_
  rintro e w1 ⟨rfl, hE1⟩
  replace hE := hE.trans hE1
  replace x4 := x4.ext hE1
  replace x5 := x5.ext hE1
  clear hE1 HV
  have c4 := x4.cell
  have c5 := x5.cell
  gi_wp2_with fail
  refine ⟨trivial, ?_⟩
  refine (callsIn_wide.2 (may_any [(a1, a2), (b1, b2)] _ 2 2 _ rfl (by omega) (two_pts (a := (a1, a2)) (b := (b1, b2)) (Box.new w1 49 _)) (by
    intro p hp
    simp only [List.mem_cons, List.not_mem_nil, or_false] at hp
    rcases hp with rfl | rfl
    · exact HA.out
    · exact HB.out))).mono ?_
  rintro e w2 ⟨rfl, hE1⟩
  replace hE1 := (Ext.alloc w1 _).trans hE1
  replace hE := hE.trans hE1
  replace x4 := x4.ext hE1
  replace x5 := x5.ext hE1
  clear hE1 c4 c5
  have c4 := x4.cell
  have c5 := x5.cell
  by_cases hle : b2 ≤ a2
  · have d1 : (b2 ≤ a2) = True := eq_true hle
    gi_wp2_with fail
    exact ⟨_, results_tmp rfl _ _ _, _, [], rfl, hE, OwnC.nil _ _, (fun x hx => by cases hx), (by simp), (fun h => by omega), (fun _ => rfl)⟩
  · have d1 : (b2 ≤ a2) = False := eq_false hle
    gi_wp2_with fail
    refine wpIn_wide.2 ?_
    apply wp_region_par' 8 (by kernel_rfl) (by kernel_rfl) rfl
    simp only [List.take_succ_cons, List.take_zero, List.drop_succ_cons, List.drop_zero]
    generalize hW : World.drew _ = W
    replace hE := Ext.of_drew hE hW
    replace x4 := Box.of_drew x4 hW
    replace x5 := Box.of_drew x5 hW
    clear hW c4 c5
    have z4 := x4.lcell
    have z5 := x5.lcell
    have HF1 := Lib.hid (fun W => fromIntV a2 W (by have := HA.out.2.2; simp only at this; omega) (by have := HA.out.2.2; simp only at this; omega))
    have HF2 := Lib.hid (fun W => fromIntV b2 W (by have := HB.out.2.2; simp only at this; omega) (by have := HB.out.2.2; simp only at this; omega))
    have s7 : Sz 2 (a2 : Rat) := Sz.coord (by have := HA.out.2.2; simp only at this; omega) (by have := HA.out.2.2; simp only at this; omega)
    have s8 : Sz 2 (b2 : Rat) := Sz.coord (by have := HB.out.2.2; simp only at this; omega) (by have := HB.out.2.2; simp only at this; omega)
    iterate 2
      refine parW_step rfl (fun K hK => ?_)
      apply Exists.intro
      refine ⟨fun z => ?_, ?_⟩
      focus
        go_simp
        first
          | rfl
          | fail
      go_simp
      refine hK _ ?_
      clear hK K
    refine parW_rel rfl (RV.stable (a2 : Rat)) (fun x => ?_) ?_
    · have hc := HF1.out x.val
      simp only [Giv]
      go_simp
      exact calls_rel hc
    iterate 2
      refine parW_step rfl (fun K hK => ?_)
      apply Exists.intro
      refine ⟨fun z => ?_, ?_⟩
      focus
        go_simp
        first
          | rfl
          | fail
      go_simp
      refine hK _ ?_
      clear hK K
    refine parW_rel rfl (RV.stable (b2 : Rat)) (fun x => ?_) ?_
    · intro va hva
      have hc := HF2.out x.val
      simp only [Giv]
      go_simp
      exact calls_rel hc
    refine parW_new (t := 29) (cs := #[.bool false, .slice none 0 0, .bool false, .slice none 0 0]) rfl rfl rfl (by simp) (fun w1 => by kernel_rfl) ?_
    refine parW_new (t := 29) (cs := #[.bool false, .slice none 0 0, .bool false, .slice none 0 0]) rfl rfl rfl (by simp) (fun w1 => by kernel_rfl) ?_
    refine parW_fin (fun z => ?_)
    rintro v1 o1 v2 o2 v3 ⟨g7, rfl, h7, y7⟩ v4 ⟨g8, rfl, h8, y8⟩ hp
    have n78 : g7 ≠ g8 := by simpa [blockOf] using hp
    simp only [Act.put, List.setIfInBounds_toArray, List.set_cons_succ, List.set_cons_zero]
    have hsw := x5.lt
    obtain ⟨p1, P1, p2, p3, p1', P1', p2', p3', r1, R1, r2, r3, r1', R1', r2', r3', Z', rfl, rfl, hZ, hE', y7', y8', j7, j8, hbx⟩ := two_putR (w := w) n78 y7 y8 (hE.trans z.prop) (by omega) (by omega) o1 o2
    have HZ := Lib.hid hZ
    have f7 := y7.frozen
    have f8 := y8.frozen
    have e7 := y7.cell
    have e8 := y8.cell
    have x4' := hbx _ _ _ (by omega) (by omega) (x4.later z)
    have x5' := hbx _ _ _ (by omega) (by omega) (x5.later z)
    clear hbx hZ hp o1 o2 z4 z5 HF1 HF2 y7 y8
    generalize z.val = Z0 at *
    have c7 := y7'.cell
    have c8 := y8'.cell
    rw [← HZ.out] at c7 c8
    go_wp2_with fail
    rw [HZ.out] at c7 c8 ⊢
    clear f7 f8 e7 e8
    have hsz : Z0.heap.size = Z'.heap.size := by rw [← HZ.out]; simp only [size_set]
    clear HZ
    gi_wp2_with fail
    obtain ⟨lo, hlo⟩ : ∃ lo : RQ, lo = ⟨p1, P1, p2, p3, p1', P1', p2', p3', (a2 : Rat)⟩ := ⟨_, rfl⟩
    obtain ⟨hi, hhi⟩ : ∃ lo : RQ, lo = ⟨r1, R1, r2, r3, r1', R1', r2', r3', (b2 : Rat)⟩ := ⟨_, rfl⟩
    obtain ⟨B, hB⟩ : ∃ B, B = Z'.heap.size := ⟨_, rfl⟩
    obtain ⟨W3, hW3⟩ : ∃ W3, W3 = (((Z'.alloc (.cells #[.bool p1, .slice P1 p2 p3, .bool p1', .slice P1' p2' p3', .bool r1, .slice R1 r2 r3, .bool r1', .slice R1' r2' r3'] 29)).alloc (.cells #[.slice (some ⟨Z'.heap.size, 0, none⟩) 2 2] 81)).alloc
      (.cells #[.func (.func 71) #[] #[.pointer (some ⟨g7, 0, none⟩), .pointer (some ⟨g8, 0, none⟩), .pointer (some ⟨Z'.heap.size + 1, 0, none⟩)]] 113)) := ⟨_, rfl⟩
    have hE3 : Ext Z' W3 := by rw [hW3]; exact ((Ext.alloc _ _).trans (Ext.alloc _ _)).trans (Ext.alloc _ _)
    have hxr : Box W3 B 29 #[.bool p1, .slice P1 p2 p3, .bool p1', .slice P1' p2' p3', .bool r1, .slice R1 r2 r3, .bool r1', .slice R1' r2' r3'] := by rw [hW3, hB]; exact ((Box.new _ _ _).alloc _).alloc _
    have hxo : Box W3 (B + 1) 81 #[.slice (some ⟨B, 0, none⟩) 2 2] := by rw [hW3, hB]; exact Box.at1.alloc _
    have hxf : Box W3 (B + 1 + 1) 113 #[.func (.func 71) #[] #[.pointer (some ⟨g7, 0, none⟩), .pointer (some ⟨g8, 0, none⟩), .pointer (some ⟨B + 1, 0, none⟩)]] := by rw [hW3, hB]; exact Box.at2
    have hown : OwnC ratE W3 B (.slice (some ⟨B, 0, none⟩) 2 2) [lo, hi] := by
      subst hlo hhi
      refine ⟨EL.Own.mk rfl (Nat.le_refl _) hxr (Nat.le_refl _) (by unfold maxLen; omega) rfl (fun j v hv => by simpa [EL.cells, ratE, RQ.ws] using hv), fun g hg => ?_⟩
      simp only [Value.ownBlock, Option.some.injEq] at hg
      subst hg
      exact NoDig.box hxr fun i d e => by
        have := List.mem_of_getElem? (show _ = some (Value.int .u32 d) by rw [← Array.getElem?_toList] at e; exact e)
        simp at this
    have hst : EvSt w B g7 g8 (B + 1) (B + 1 + 1) (a1, a2) (b1, b2) lo hi W3 (.slice (some ⟨B, 0, none⟩) 2 2) [lo, hi] := by
      have k7 : lo.At W3 := by subst hlo; exact RS.ext j7 hE3
      have k8 : hi.At W3 := by subst hhi; exact RS.ext j8 hE3
      have hq7 : lo.q = (a2 : Rat) := by rw [hlo]
      have hq8 : hi.q = (b2 : Rat) := by rw [hhi]
      refine ⟨hE'.trans hE3, x4'.ext hE3, x5'.ext hE3, ?_, ?_, hxf, hxo, hown, fun x hx => ?_, k7, k8⟩
      · subst hlo; exact y7'.ext hE3
      · subst hhi; exact y8'.ext hE3
      · simp only [List.mem_cons, List.not_mem_nil, or_false] at hx
        rcases hx with rfl | rfl
        · exact ⟨k7, by rw [hq7]; exact s7.mono (by omega)⟩
        · exact ⟨k8, by rw [hq8]; exact s8.mono (by omega)⟩
    have hfix : EvFix w B g7 g8 (B + 1) (B + 1 + 1) lo hi := by
      have l4 := x4'.lt
      have l5 := x5'.lt
      have l7 := y7'.lt
      have l8 := y8'.lt
      exact ⟨by omega, by omega, by omega, by omega, ⟨by omega, by omega⟩, ⟨by omega, by omega⟩, by omega, by rw [hlo]; exact s7, by rw [hhi]; exact s8⟩
    have hq7 : lo.q = (a2 : Rat) := by rw [hlo]
    have hq8 : hi.q = (b2 : Rat) := by rw [hhi]
    have hwi : Within a2 b2 ([lo, hi].map (·.q)) := by
      have hab : (a2 : Rat) ≤ (b2 : Rat) := Rat.intCast_le_intCast.2 (by omega)
      simp only [List.map_cons, List.map_nil, hq7, hq8]
      refine ⟨by simp, by simp, fun q hq => ?_⟩
      simp only [List.mem_cons, List.not_mem_nil, or_false] at hq
      rcases hq with rfl | rfl
      · exact ⟨Rat.le_refl, hab⟩
      · exact ⟨hab, Rat.le_refl⟩
    rw [← hB] at hW3 ⊢
    rw [← hW3]
    have HQ7 := Lib.hid hq7
    have HQ8 := Lib.hid hq8
    have HFX := Lib.hid hfix
    clear hB hW3 hlo hhi hxr hxo hxf hown hfix hE3 hE' x4' x5' y7' y8' j7 j8 c7 c8 s7 s8 hsz n78 x4 x5 hsw h7 h8 hE hq7 hq8 d1
    gi_loopw [12, 14, 56] (fun _ _ i wr => ∃ (k : Nat) (v : Value) (l : List RQ), k ≤ n ∧ i = .int .i64 k ∧ EvSt w B g7 g8 (B + 1) (B + 1 + 1) (a1, a2) (b1, b2) lo hi wr v l ∧
      Hid (Within a2 b2 (l.map (·.q)) ∧ (∀ j r, j < k → L[j]? = some r → ∀ p ∈ r, EndOk a2 b2 p (l.map (·.q))) ∧ l.length ≤ 2 + lenS (L.take k))) (fun _ _ i _ => n - (intOf i).toNat)
    case atStart => exact ⟨0, _, _, Nat.zero_le _, rfl, hst, Lib.hid ⟨hwi, fun j r hj => by omega, by simp [lenS]⟩⟩
    case round =>
      clear hst hwi
      obtain ⟨k, v, l, hk, rfl, hst, HG⟩ := hrel
      by_cases hlt : k < n
      · obtain ⟨r, hlk⟩ : ∃ r, L[k]? = some r := ⟨_, List.getElem?_eq_getElem (by rw [← HN.out]; exact hlt)⟩
        obtain ⟨b0, o0, rfl, hcell⟩ := (HL.out w (Ext.refl w)) (fun e => by rw [e] at hlk; simp at hlk)
        obtain ⟨vr, c0, A', c', rfl, hlc, hlb, hP⟩ := hcell k r hlk
        have c1 := hst.ext.cell c0
        have hrl := mem_len hlk
        have hls := lenS_take_succ hlk
        have hlt6 := lenS_take_le L (k + 1)
        have HRM := Lib.hid (HIN.out r (List.mem_of_getElem? hlk))
        obtain ⟨m, hm⟩ : ∃ m, m = r.length := ⟨_, rfl⟩
        rw [← hm] at c1 hlc hlb hrl hls
        have HM := Lib.hid hm
        have HLK := Lib.hid hlk
        have HP := Lib.hid hP
        have HLS := Lib.hid hls
        have HL6 := Lib.hid hlt6
        have hS100 := HS.out
        clear hlk hcell c0 hP hm hls hlt6
        gi_wp2_with fail
        clear c1
        gi_loopw [14, 62] (fun _ i wz => ∃ (j : Nat) (v : Value) (l : List RQ), j ≤ m ∧ i = .int .i64 j ∧ EvSt w B g7 g8 (B + 1) (B + 1 + 1) (a1, a2) (b1, b2) lo hi wz v l ∧
          Hid (Within a2 b2 (l.map (·.q)) ∧ (∀ j r, j < k → L[j]? = some r → ∀ p ∈ r, EndOk a2 b2 p (l.map (·.q))) ∧ (∀ p ∈ r.take j, EndOk a2 b2 p (l.map (·.q))) ∧ l.length ≤ 2 + lenS (L.take k) + j)) (fun _ i _ => m - (intOf i).toNat)
        case atStart => exact ⟨0, v, l, Nat.zero_le _, rfl, hst, Lib.hid ⟨HG.out.1, HG.out.2.1, fun p hp => by simp at hp, HG.out.2.2⟩⟩
        case round =>
          clear hst HG
          obtain ⟨j, v, l, hj, rfl, hst, HG⟩ := hrel
          by_cases hlt' : j < m
          · obtain ⟨⟨x, y⟩, hlj⟩ : ∃ q, r[j]? = some q := ⟨_, List.getElem?_eq_getElem (by rw [← HM.out]; exact hlt')⟩
            obtain ⟨b', o', rfl, hcell⟩ := HP.out (fun e => by rw [e] at hlj; simp at hlj)
            have e0 := hst.ext.cell (hcell j _ hlj).1
            have e1 := hst.ext.cell (hcell j _ hlj).2
            have hin := HRM.out _ (List.mem_of_getElem? hlj)
            have HTK := Lib.hid (show r.take (j + 1) = r.take j ++ [(x, y)] by rw [List.take_add_one, hlj]; rfl)
            clear hcell hlj
            gi_wp2_with fail
            clear e0 e1
            refine wpIn_wide.2 ?_
            apply wp_region_par' 4 (by kernel_rfl) (by kernel_rfl) rfl
            simp only [List.take_succ_cons, List.take_zero, List.drop_succ_cons, List.drop_zero]
            have x14 := Box.new wr 49 #[.int .i64 x, .int .i64 y]
            replace hst := hst.to (Ext.alloc wr (.cells #[.int .i64 x, .int .i64 y] 49))
            generalize wr.alloc _ = W4 at *
            generalize hW : World.drew _ = W5
            replace hst := hst.to (Ext.of_drew (Ext.refl _) hW)
            replace x14 := Box.of_drew x14 hW
            clear hW
            have z14 := x14.lcell
            have zf := hst.xf.lcell
            have HFI := Lib.hid (fun W => fromIntV y W (by have := hin.2.2; simp only at this; omega) (by have := hin.2.2; simp only at this; omega))
            have SY : Sz 7 (y : Rat) := (Sz.coord (by have := hin.2.2; simp only at this; omega) (by have := hin.2.2; simp only at this; omega)).mono (by omega)
            iterate 3
              refine parW_step rfl (fun K hK => ?_)
              apply Exists.intro
              refine ⟨fun z => ?_, ?_⟩
              focus
                go_simp
                first
                  | rfl
                  | fail
              go_simp
              refine hK _ ?_
              clear hK K
            refine parW_rel rfl (RV.stable (y : Rat)) (fun x => ?_) ?_
            · have hc := HFI.out x.val
              simp only [Giv]
              go_simp
              exact calls_rel hc
            refine parW_fin (fun z => ?_)
            rintro vy oy hp
            simp only [Act.put, List.setIfInBounds_toArray, List.set_cons_succ, List.set_cons_zero]
            replace hst := hst.to z.prop
            clear z14 zf x14 HFI hp
            generalize z.val = Z1 at *
            have heg := put_enter
            go_wp2_with fail
            refine (hst.put HFX.out oy SY (by have := HG.out.2.2.2; have := HL6.out; have := lenS_take_le L k; omega)).mono ?_
            rintro e Y ⟨rfl, v2, l2, hst2, hs2, hr2, hadd⟩
            rw [HQ7.out, HQ8.out] at hadd
            have HG2 : Hid (Within a2 b2 (l2.map (·.q)) ∧ (∀ j r, j < k → L[j]? = some r → ∀ p ∈ r, EndOk a2 b2 p (l2.map (·.q))) ∧ (∀ p ∈ r.take (j + 1), EndOk a2 b2 p (l2.map (·.q))) ∧ l2.length ≤ 2 + lenS (L.take k) + (j + 1)) := Lib.hid ⟨HG.out.1.adds hadd, fun j r hj hr p hp => (HG.out.2.1 j r hj hr p hp).sub hadd.sub, fun p hp => by
                rw [HTK.out] at hp
                rcases List.mem_append.1 hp with hp | hp
                · exact (HG.out.2.2.1 p hp).sub hadd.sub
                · rw [List.mem_singleton] at hp
                  subst hp
                  exact fun h1 h2 => hadd.mem h1 h2, by
                have h1 := hadd.len
                have h2 := HG.out.2.2.2
                rw [List.length_map, List.length_map] at h1
                omega⟩
            clear hst HG hadd hs2 hr2 oy heg
            go_wp2_with fail
            gi_wp2
            go_roundw
            case rel => exact ⟨j + 1, v2, l2, by omega, by go_num, hst2, HG2⟩
            case measure => simp [intOf]; omega
          · have hfin : r.take j = r := List.take_of_length_le (by rw [← HM.out]; omega)
            have HG2 : Hid (Within a2 b2 (l.map (·.q)) ∧ (∀ j r, j < k + 1 → L[j]? = some r → ∀ p ∈ r, EndOk a2 b2 p (l.map (·.q))) ∧ l.length ≤ 2 + lenS (L.take (k + 1))) := Lib.hid ⟨HG.out.1, fun j' r' hj' hr' => by
                rcases Nat.lt_or_ge j' k with h | h
                · exact HG.out.2.1 j' r' h hr'
                · have : j' = k := by omega
                  subst this
                  rw [HLK.out] at hr'
                  injection hr' with hr'
                  subst hr'
                  have := HG.out.2.2.1
                  rwa [hfin] at this, by
                have h1 := HG.out.2.2.2
                have h2 := HLS.out
                omega⟩
            clear hfin HG
            gi_wp2
            go_roundw
            case rel => exact ⟨k + 1, v, l, by omega, by go_num, hst, HG2⟩
            case measure => simp [intOf]; omega
      · have HG2 : Hid (Within a2 b2 (l.map (·.q)) ∧ (∀ r ∈ L, ∀ p ∈ r, EndOk a2 b2 p (l.map (·.q))) ∧ l.length ≤ 2 + lenS L) := Lib.hid ⟨HG.out.1, fun r hr => by
            obtain ⟨j, hj⟩ := List.mem_iff_getElem?.1 hr
            exact HG.out.2.1 j r (by have := (List.getElem?_eq_some_iff.1 hj).1; have := HN.out; omega) hj, by
          have h1 := HG.out.2.2
          have h2 := lenS_take_le L k
          omega⟩
        clear HG
        gi_wp2_with fail
        refine ⟨trivial, ?_⟩
        refine (callsIn_wide.2 (HED.out _ (hst.ext.trans (Ext.alloc wr (.cells #[.slice none 0 0] 114))))).mono ?_
        rintro e w3 ⟨g, rfl, hE1, hmem⟩
        obtain ⟨p0, hp0⟩ : ∃ p0, p0 = (wr.alloc (.cells #[.slice none 0 0] 114)).heap.size := ⟨_, rfl⟩
        obtain ⟨be, hbe⟩ : ∃ be, be = wr.heap.size := ⟨_, rfl⟩
        have xe : Box w3 be 114 #[.slice none 0 0] := by rw [hbe]; exact (Box.new wr _ _).ext hE1
        have hbo : B + 1 < p0 := by rw [hp0]; have := hst.xo.lt; simp; omega
        have hp01 : p0 ≤ w3.heap.size := by rw [hp0]; exact hE1.size
        have hstw := hst.ext.size
        have hrow : ∀ g, v.ownBlock = some g → g < p0 ∨ w3.heap.size ≤ g := fun g e => .inl (by rw [hp0]; have := (hst.row e).2; simp; omega)
        replace hst := (hst.to (Ext.alloc wr (.cells #[.slice none 0 0] 114))).to hE1
        rw [← hp0] at hmem
        rw [← hbe]
        have hw3 := hst.ext.size
        have hbw : w.heap.size ≤ be := by rw [hbe]; exact hstw
        have hbp : be < p0 := by rw [hp0, hbe]; simp
        have hlog : EvLog L a1 a2 b1 b2 [] (l.map (·.q)) := ⟨HG2.out.1, HG2.out.2.1, fun e he => (by cases he), fun i j e f _ hi => (by simp at hi)⟩
        have hlen : l.length ≤ 20 + ([] : List E2).length * 24 := by have := HG2.out.2.2; have := HS.out; simp; omega
        have hI0 : EvI w L B g7 g8 (B + 1) (B + 1 + 1) (a1, a2) (b1, b2) lo hi p0 w3.heap.size be [] w3 := ⟨v, l, _, hst, xe, OwnC.nil _ _, hrow, Nat.le_refl _, hlog, hlen⟩
        clear hst hrow hlog hlen HG2 hp0 hbe hE1 xe
        gi_wp2_with fail
        refine with_tmps (fun T hT => ?_)
        refine wpIn_rangeAll (gf := 100) (lb := #[.pointer (some ⟨g, 0, none⟩)]) (by rw [hT]; rfl) (enters_of Tryz.func100 (by kernel_rfl) rfl)
          (encs := fun e : E2 => #[ptV e.1, ptV e.2]) (fun _ => rfl) (Mid p0 w3.heap.size) (fun h k => h.trans k) (fun X l o o' hl ho hc => Mid.putObj hl o') (edgesL L)
          (fun l J X hX hJ hY h0 => edges1_in (20 - 1) l g p0 w3.heap.size L (by rw [← HN.out]; omega) (fun r hr => by
            obtain ⟨j, hj⟩ := List.mem_iff_getElem?.1 hr
            have h1 := mem_len hj
            have h2 := HS.out
            omega) X hX.size (hmem.mid (Mid.ext hX (Nat.le_refl _))) J hJ hY h0)
          (EvI w L B g7 g8 (B + 1) (B + 1 + 1) (a1, a2) (b1, b2) lo hi p0 w3.heap.size be) (ownD_evI L hw3) hI0
          (fun x a' X => ∃ Bp Bq, Box X Bp 49 #[.int .i64 x.1.1, .int .i64 x.1.2] ∧ Box X Bq 49 #[.int .i64 x.2.1, .int .i64 x.2.2] ∧
            a' = { tmps := (((T.setIfInBounds 75 (ptV x.1)).setIfInBounds 76 (ptV x.2)).setIfInBounds 16 (.pointer (some ⟨Bp, 0, none⟩))).setIfInBounds 17 (.pointer (some ⟨Bq, 0, none⟩)), defers := [] })
          (fun x a' _ A X row hs hg hr => by
            obtain ⟨Bp, Bq, h1, h2, h3⟩ := hs
            exact ⟨Bp, Bq, h1.turn hg hr, h2.turn hg hr, h3⟩)
          ?assign ?body ?done
        case assign =>
          rintro m l1 pre x X K hi hK
          have hsz : w3.heap.size ≤ X.heap.size := by obtain ⟨_, _, _, _, _, _, _, h, _⟩ := hi; exact h
          obtain ⟨⟨x1, x2⟩, x3, x4⟩ := x
          subst hT
          dsimp only [ptV]
          gi_wp2
          exact hK _ _ (((KeepsOthers.alloc _ _).trans (KeepsOthers.alloc _ _)).from _) ((Mid.alloc hsz _).trans (Mid.alloc (by simp; omega) _)) ((ownD_evI L hw3).alloc _ ((ownD_evI L hw3).alloc _ hi)) ⟨X.heap.size, X.heap.size + 1, (Box.new _ _ _).alloc _, Box.at1, rfl⟩
        case body =>
          rintro m l1 pre x a' X ⟨v, l, ve, hst, xe, oe, hrow, hsz, hlog, hlen⟩ ⟨Bp, Bq, xp, xq, rfl⟩ hpre
          subst hT
          simp only [List.setIfInBounds_toArray, List.set_cons_succ, List.set_cons_zero]
          have hxm : x ∈ edgesL L := hpre.subset (List.mem_append_right _ (List.mem_singleton.2 rfl))
          obtain ⟨⟨ra, hra, hpa⟩, rb, hrb, hpb⟩ := edges_in HIN.out hxm
          have HP1 := Lib.hid (HIN.out ra hra x.1 hpa)
          have HP2 := Lib.hid (HIN.out rb hrb x.2 hpb)
          have HIE := Lib.hid (show ∀ e ∈ pre, InC e.1 ∧ InC e.2 from fun e he => by
            obtain ⟨⟨ra, hra, hpa⟩, rb, hrb, hpb⟩ := edges_in HIN.out (hpre.subset (List.mem_append_left _ he))
            exact ⟨HIN.out ra hra e.1 hpa, HIN.out rb hrb e.2 hpb⟩)
          have hpl : pre.length < 18 := by
            have h1 := hpre.length_le
            rw [List.length_append, List.length_singleton] at h1
            have h2 := edgesL_length L
            have h3 := HS.out
            omega
          have hr : EvR w B g7 g8 (B + 1) (B + 1 + 1) (a1, a2) (b1, b2) lo hi p0 w3.heap.size be Bp Bq ve pre x X X v l := ⟨hst, xe, oe, xp, xq, KeepsOthers.refl _, Mid.refl _, hrow, hsz⟩
          have c4 := hst.xa.cell
          have c5 := hst.xb.cell
          have HLG := Lib.hid hlog
          have HLEN := Lib.hid hlen
          clear hst xe oe xp xq hrow hsz hlog hlen hra hrb hpa hpb hxm hpre hmem
          obtain ⟨⟨x1, x2⟩, x3, x4⟩ := x
          dsimp only [ptV]
          gi_wp2_with fail
          clear c4 c5
          have xc := Box.new X 3 #[.int .i64 a1, .int .i64 b1]
          replace hr := hr.to (Ext.alloc X (.cells #[.int .i64 a1, .int .i64 b1] 3))
          obtain ⟨cb, hcb⟩ : ∃ cb, cb = X.heap.size := ⟨_, rfl⟩
          rw [← hcb] at xc
          rw [← hcb]
          generalize X.alloc _ = X1 at *
          clear hcb
          gi_loopw [19, 20, 21, 83] (fun _ _ _ i wz => ∃ (j : Nat) (v : Value) (l : List RQ), j ≤ 2 ∧ i = .int .i64 j ∧ EvR w B g7 g8 (B + 1) (B + 1 + 1) (a1, a2) (b1, b2) lo hi p0 w3.heap.size be Bp Bq ve pre ((x1, x2), (x3, x4)) X wz v l ∧ Box wz cb 3 #[.int .i64 a1, .int .i64 b1] ∧
            Hid (EvLog L a1 a2 b1 b2 pre (l.map (·.q)) ∧ (1 ≤ j → SideOk a2 b2 ((x1, x2), (x3, x4)) a1 (l.map (·.q))) ∧ (2 ≤ j → SideOk a2 b2 ((x1, x2), (x3, x4)) b1 (l.map (·.q))) ∧ l.length ≤ 20 + pre.length * 24 + j)) (fun _ _ _ i _ => 2 - (intOf i).toNat)
          case atStart => exact ⟨0, v, l, by omega, rfl, hr, xc, Lib.hid ⟨HLG.out, fun h => (by omega), fun h => (by omega), HLEN.out⟩⟩
          case round =>
            clear hr xc HLG HLEN
            obtain ⟨j, v, l, hj, rfl, hr, xc, HG⟩ := hrel
            by_cases hlt2 : j < 2
            · obtain ⟨xv, hx0, hx1, hcx⟩ : ∃ xv : Int, (j = 0 → xv = a1) ∧ (j = 1 → xv = b1) ∧ wr.cell? ⟨cb, j, none⟩ = some (.int .i64 xv) := by
                have cc := xc.cell
                obtain h | h : j = 0 ∨ j = 1 := by omega
                · subst h; exact ⟨a1, fun _ => rfl, fun h => absurd h (by omega), by rw [cc]; rfl⟩
                · subst h; exact ⟨b1, fun h => absurd h (by omega), fun _ => rfl, by rw [cc]; rfl⟩
              have hxr : -1048576 ≤ xv ∧ xv ≤ 1048576 := by
                have h1 := HA.out
                have h2 := HB.out
                unfold InC at h1 h2
                dsimp only at h1 h2
                obtain h | h : j = 0 ∨ j = 1 := by omega
                · rw [hx0 h]; exact ⟨h1.1, h1.2.1⟩
                · rw [hx1 h]; exact ⟨h2.1, h2.2.1⟩
              have HX0 := Lib.hid hx0
              have HX1 := Lib.hid hx1
              have c16 := hr.xp.cell
              have c17 := hr.xq.cell
              have SYY := fun hne => Sz.yAt (e := ((x1, x2), (x3, x4))) HP1.out HP2.out hxr hne
              have HYA := Lib.hid (fun W => YAt_any (w := W) HP1.out HP2.out hxr)
              clear hx0 hx1 hxr
              gi_wp2_with fail
              refine ⟨trivial, fun h => (by simp [Fence.wide] at h), ?_⟩
              refine (CallsIn.inRound l1 (callsIn_wide.2 (HYA.out _))).mono ?_
              rintro e Y ⟨vy, ok, rfl, hEy, hopt⟩
              replace hr := hr.to hEy
              replace xc := xc.ext hEy
              clear c16 c17 hcx HYA
              rcases hopt with ⟨hyk, rfl, hrv⟩ | ⟨hyk, rfl, rfl⟩
              · have SY := SYY hyk.1
                clear SYY hEy
                obtain ⟨yq, rfl, hyq, hya⟩ := hrv.rq
                have hrv' : RV (Y.alloc (.cells yq.cs 29)) yq.v (yAtR ((x1, x2), (x3, x4)) xv) := hrv.ext (Ext.alloc _ _)
                replace hr := hr.to (Ext.alloc Y (.cells yq.cs 29))
                replace xc := xc.alloc (.cells yq.cs 29)
                have zf := hr.st.xf.cell
                clear hrv hya hyq
                unfold RQ.v
                unfold RQ.v at hrv'
                have heg := put_enter
                gi_wp2_with fail
                refine ⟨trivial, fun h => (by simp [Fence.wide] at h), ?_⟩
                refine (CallsIn.inRound l1 (callsIn_wide.2 (hr.st.put HFX.out hrv' SY (by have := HG.out.2.2.2; omega)))).mono ?_
                rintro e Y2 ⟨rfl, v2, l2, hst2, hs2, hr2, hadd⟩
                rw [HQ7.out, HQ8.out] at hadd
                have xc2 := hs2.box xc (Box.ne xc hr.st.xo (by decide)) (hr.st.own.ne_box xc (by decide))
                replace hr := hr.put hbo hst2 hs2 hr2
                have HG2 : Hid (EvLog L a1 a2 b1 b2 pre (l2.map (·.q)) ∧ (1 ≤ j + 1 → SideOk a2 b2 ((x1, x2), (x3, x4)) a1 (l2.map (·.q))) ∧ (2 ≤ j + 1 → SideOk a2 b2 ((x1, x2), (x3, x4)) b1 (l2.map (·.q))) ∧ l2.length ≤ 20 + pre.length * 24 + (j + 1)) :=
                  Lib.hid ⟨HG.out.1.adds hadd, fun h => (by
                    by_cases h0 : j = 0
                    · rw [← HX0.out h0]; exact fun _ _ _ p q => hadd.mem p q
                    · exact (HG.out.2.1 (by omega)).sub hadd.sub), fun h => (by
                    rw [← HX1.out (by omega)]; exact fun _ _ _ p q => hadd.mem p q), by
                    have h1 := hadd.len
                    have h2 := HG.out.2.2.2
                    rw [List.length_map, List.length_map] at h1
                    omega⟩
                clear hst2 hs2 hr2 hadd HG zf hrv' xc heg
                gi_wp2
                go_roundw
                case rel => exact ⟨j + 1, v2, l2, by omega, by go_num, hr, xc2, HG2⟩
                case measure => simp [intOf]; omega
              · have HG2 : Hid (EvLog L a1 a2 b1 b2 pre (l.map (·.q)) ∧ (1 ≤ j + 1 → SideOk a2 b2 ((x1, x2), (x3, x4)) a1 (l.map (·.q))) ∧ (2 ≤ j + 1 → SideOk a2 b2 ((x1, x2), (x3, x4)) b1 (l.map (·.q))) ∧ l.length ≤ 20 + pre.length * 24 + (j + 1)) :=
                  Lib.hid ⟨HG.out.1, fun h => (by
                    by_cases h0 : j = 0
                    · rw [← HX0.out h0]; exact fun p q s _ _ => absurd ⟨p, q, s⟩ hyk
                    · exact HG.out.2.1 (by omega)), fun h => (by
                    rw [← HX1.out (by omega)]; exact fun p q s _ _ => absurd ⟨p, q, s⟩ hyk), by
                    have h2 := HG.out.2.2.2
                    omega⟩
                replace hr := hr.to (Ext.alloc Y (.cells #[.bool false, .slice none 0 0, .bool false, .slice none 0 0] 29))
                replace xc := xc.alloc (.cells #[.bool false, .slice none 0 0, .bool false, .slice none 0 0] 29)
                clear HG SYY hyk hEy
                gi_wp2
                go_roundw
                case rel => exact ⟨j + 1, v, l, by omega, by go_num, hr, xc, HG2⟩
                case measure => simp [intOf]; omega
            · have HG2 : Hid (EvLog L a1 a2 b1 b2 pre (l.map (·.q)) ∧ SideOk a2 b2 ((x1, x2), (x3, x4)) a1 (l.map (·.q)) ∧ SideOk a2 b2 ((x1, x2), (x3, x4)) b1 (l.map (·.q)) ∧ l.length ≤ 20 + pre.length * 24 + 2) := Lib.hid ⟨HG.out.1, HG.out.2.1 (by omega), HG.out.2.2.1 (by omega), by have := HG.out.2.2.2; omega⟩
              have ce := hr.xe.cell
              clear HG xc
              obtain ⟨A2, c2, e2, hlc2, hAt⟩ := hr.oe.own.at (n := pre.length) rfl (by omega)
              subst e2
              clear hAt
              gi_wp2_with fail
              clear ce
              generalize wr = wo at *
              gi_loopw [23, 24, 25, 26, 101] (fun _ _ _ _ i wz => ∃ (j : Nat) (v : Value) (l : List RQ), j ≤ pre.length ∧ i = .int .i64 j ∧ EvR w B g7 g8 (B + 1) (B + 1 + 1) (a1, a2) (b1, b2) lo hi p0 w3.heap.size be Bp Bq (.slice A2 pre.length c2) pre ((x1, x2), (x3, x4)) X wz v l ∧
                Hid ((EvLog L a1 a2 b1 b2 pre (l.map (·.q)) ∧ SideOk a2 b2 ((x1, x2), (x3, x4)) a1 (l.map (·.q)) ∧ SideOk a2 b2 ((x1, x2), (x3, x4)) b1 (l.map (·.q))) ∧ (∀ i e, i < j → pre[i]? = some e → MeetOk a2 b2 e ((x1, x2), (x3, x4)) (l.map (·.q))) ∧ l.length ≤ 20 + pre.length * 24 + 2 + j)) (fun _ _ _ _ i _ => pre.length - (intOf i).toNat)
              case atStart => exact ⟨0, v, l, by omega, rfl, hr, Lib.hid ⟨⟨HG2.out.1, HG2.out.2.1, HG2.out.2.2.1⟩, fun i e h => (by omega), HG2.out.2.2.2⟩⟩
              case round =>
                clear hr HG2
                obtain ⟨j, v, l, hj, rfl, hr, HG⟩ := hrel
                by_cases hltj : j < pre.length
                · obtain ⟨⟨⟨e1, e2⟩, e3, e4⟩, hpj⟩ : ∃ e, pre[j]? = some e := ⟨_, List.getElem?_eq_getElem hltj⟩
                  obtain ⟨A3, c3, e3', _, hAt⟩ := hr.oe.own.at (n := pre.length) rfl (by omega)
                  simp only [Value.slice.injEq] at e3'
                  obtain ⟨rfl, _, rfl⟩ := e3'
                  obtain ⟨bb, oo, rfl, hcell⟩ := hAt (fun e => by rw [e] at hltj; simp at hltj)
                  have q0 : wr.cell? ⟨bb, oo + j * 4, none⟩ = some (.int .i64 e1) := hcell j _ hpj 0 _ rfl
                  have q1 : wr.cell? ⟨bb, oo + j * 4 + 1, none⟩ = some (.int .i64 e2) := hcell j _ hpj 1 _ rfl
                  have q2 : wr.cell? ⟨bb, oo + j * 4 + 2, none⟩ = some (.int .i64 e3) := hcell j _ hpj 2 _ rfl
                  have q3 : wr.cell? ⟨bb, oo + j * 4 + 3, none⟩ = some (.int .i64 e4) := hcell j _ hpj 3 _ rfl
                  obtain ⟨ie1, ie2⟩ := HIE.out _ (List.mem_of_getElem? hpj)
                  have HSG := Lib.hid (fun W => Segments_any (e1, e2) (e3, e4) (x1, x2) (x3, x4) W ie1 ie2 HP1.out HP2.out)
                  have HPJ := Lib.hid hpj
                  have c16 := hr.xp.cell
                  have c17 := hr.xq.cell
                  clear hcell hAt hpj ie1 ie2
                  gi_wp2_with fail
                  refine ⟨trivial, fun h => (by simp [Fence.wide] at h), ?_⟩
                  refine (CallsIn.inRound l1 (callsIn_wide.2 (HSG.out _))).mono ?_
                  rintro e Y ⟨vx, vy, kk, rfl, hEy, ⟨z1, z2, z3, z4, z5, z6, z7, z8, rfl⟩, ⟨y1, y2, y3, y4, y5, y6, y7, y8, rfl⟩, hk1, hk2⟩
                  replace hr := (hr.to (Ext.alloc wr (.cells #[.int .i64 e1, .int .i64 e2, .int .i64 e3, .int .i64 e4] 121))).to hEy
                  clear q0 q1 q2 q3 c16 c17 HSG hEy
                  by_cases hkk : kk = 1
                  · subst hkk
                    obtain ⟨yq, hrv, SY, hyal⟩ := hk1 rfl
                    have zf := hr.st.xf.cell
                    clear hk1 hk2
                    have heg := put_enter
                    gi_wp2_with fail
                    have hE2 := (Ext.alloc Y (.cells #[.bool z1, .slice z2 z3 z4, .bool z5, .slice z6 z7 z8] 29)).trans (Ext.alloc _ (.cells #[.bool y1, .slice y2 y3 y4, .bool y5, .slice y6 y7 y8] 29))
                    replace hr := hr.to hE2
                    replace hrv := hrv.ext hE2
                    clear hE2 zf
                    refine ⟨trivial, fun h => (by simp [Fence.wide] at h), ?_⟩
                    refine (CallsIn.inRound l1 (callsIn_wide.2 (hr.st.put HFX.out hrv SY (by have := HG.out.2.2; omega)))).mono ?_
                    rintro e Y2 ⟨rfl, v2, l2, hst2, hs2, hr2, hadd⟩
                    rw [HQ7.out, HQ8.out] at hadd
                    replace hr := hr.put hbo hst2 hs2 hr2
                    have HG2 : Hid ((EvLog L a1 a2 b1 b2 pre (l2.map (·.q)) ∧ SideOk a2 b2 ((x1, x2), (x3, x4)) a1 (l2.map (·.q)) ∧ SideOk a2 b2 ((x1, x2), (x3, x4)) b1 (l2.map (·.q))) ∧ (∀ i e, i < j + 1 → pre[i]? = some e → MeetOk a2 b2 e ((x1, x2), (x3, x4)) (l2.map (·.q))) ∧ l2.length ≤ 20 + pre.length * 24 + 2 + (j + 1)) :=
                      Lib.hid ⟨⟨HG.out.1.1.adds hadd, HG.out.1.2.1.sub hadd.sub, HG.out.1.2.2.sub hadd.sub⟩, fun i e hi he => (by
                        by_cases h0 : i = j
                        · subst h0
                          rw [HPJ.out] at he
                          injection he with he
                          subst he
                          intro n1 n2 n3 n4 n5 n6 n7
                          have hy := hyal n1
                          dsimp only at hy n6 n7 ⊢
                          rw [← hy] at n6 n7 ⊢
                          exact hadd.mem n6 n7
                        · exact (HG.out.2.1 i e (by omega) he).sub hadd.sub), by
                        have h1 := hadd.len
                        have h2 := HG.out.2.2
                        rw [List.length_map, List.length_map] at h1
                        omega⟩
                    clear hst2 hs2 hr2 hadd HG hrv hyal heg
                    gi_wp2
                    go_roundw
                    case rel => exact ⟨j + 1, v2, l2, by omega, by go_num, hr, HG2⟩
                    case measure => simp [intOf]; omega
                  · have HG2 : Hid ((EvLog L a1 a2 b1 b2 pre (l.map (·.q)) ∧ SideOk a2 b2 ((x1, x2), (x3, x4)) a1 (l.map (·.q)) ∧ SideOk a2 b2 ((x1, x2), (x3, x4)) b1 (l.map (·.q))) ∧ (∀ i e, i < j + 1 → pre[i]? = some e → MeetOk a2 b2 e ((x1, x2), (x3, x4)) (l.map (·.q))) ∧ l.length ≤ 20 + pre.length * 24 + 2 + (j + 1)) :=
                      Lib.hid ⟨HG.out.1, fun i e hi he => (by
                        by_cases h0 : i = j
                        · subst h0
                          rw [HPJ.out] at he
                          injection he with he
                          subst he
                          intro n1 n2 n3 n4 n5 n6 n7
                          exact absurd (hk2 ⟨n1, n2, n3, n4, n5⟩) hkk
                        · exact HG.out.2.1 i e (by omega) he), by
                        have h2 := HG.out.2.2
                        omega⟩
                    replace hr := (hr.to (Ext.alloc Y (.cells #[.bool z1, .slice z2 z3 z4, .bool z5, .slice z6 z7 z8] 29))).to (Ext.alloc _ (.cells #[.bool y1, .slice y2 y3 y4, .bool y5, .slice y6 y7 y8] 29))
                    clear HG hk1 hk2
                    gi_wp2
                    go_roundw
                    case rel => exact ⟨j + 1, v, l, by omega, by go_num, hr, HG2⟩
                    case measure => simp [intOf]; omega
                · have HLG2 := Lib.hid (show EvLog L a1 a2 b1 b2 (pre ++ [((x1, x2), (x3, x4))]) (l.map (·.q)) from HG.out.1.1.snoc HG.out.1.2.1 HG.out.1.2.2 (fun i e he => HG.out.2.1 i e (by have := (List.getElem?_eq_some_iff.1 he).1; omega) he))
                  have hlen2 := HG.out.2.2
                  have ce := hr.xe.cell
                  have fe := hr.xe.frozen
                  have c16 := hr.xp.cell
                  have c17 := hr.xq.cell
                  have hszr := hr.size
                  have hlen3 : pre.length + [((x1, x2), (x3, x4))].length ≤ 1000000000 := by simp; omega
                  have hrow1 := edg_one ((x1, x2), (x3, x4)) (Box.new wr 121 #[.int .i64 x1, .int .i64 x2, .int .i64 x3, .int .i64 x4])
                  have hown1 := hr.oe.ext (Ext.alloc wr (.cells #[.int .i64 x1, .int .i64 x2, .int .i64 x3, .int .i64 x4] 121))
                  have hxe1 := hr.xe.alloc (.cells #[.int .i64 x1, .int .i64 x2, .int .i64 x3, .int .i64 x4] 121)
                  have hne1 := hown1.ne_box hxe1 (by decide)
                  have hb1 : w3.heap.size ≤ (wr.alloc (.cells #[.int .i64 x1, .int .i64 x2, .int .i64 x3, .int .i64 x4] 121)).heap.size := by simp; omega
                  clear HG
                  gi_wp2_with (gi_at_builtin; refine OwnC.wpAppIn edgE edgE_clean rfl _ _ rfl w3.heap.size _ _ pre [((x1, x2), (x3, x4))] rfl rfl hown1 hrow1 hlen3 hb1 ?_; intro v' w4 hown4 hg hd hv'; obtain ⟨g4, cap4, e4, _, _⟩ := hown4.own.head (by simp); simp only [List.length_append, List.length_cons, List.length_nil, Nat.zero_add] at e4; subst e4; have xe4 := boxGrown hxe1 hg hne1; have ce4 := xe4.cell; have fe4 := xe4.frozen)
                  have hrA := hr.to (Ext.alloc wr (.cells #[.int .i64 x1, .int .i64 x2, .int .i64 x3, .int .i64 x4] 121))
                  have hb4 := (But.refl be w4).set 0 (.slice (some ⟨g4, 0, none⟩) (pre.length + 1) cap4)
                  have hdo := DigKeep.but hb4 (NoDig.but_set xe4 (fun d e => by cases e))
                  have hst1 := (Stp.grown (bo := be) hg hd).trans (Stp.but hb4 hdo)
                  exact ⟨(hrA.ko.trans (hst1.keeps hrA.xe hrA.oe)).from _, hrA.mid.trans (hst1.mid hrA.size (.inl hbp) (fun g e => .inr (hrA.oe.lt e).1)), v, l, _, hrA.st.edge hrA.xe hrA.oe hst1 hbw hw3, xe4.set 0 _, hown4.but hb4 (hown4.ne_box xe4 (by decide)), hr.row, Nat.le_trans hrA.size hst1.size, HLG2.out, by simp; omega⟩
        case done =>
          rintro D X hD ⟨v, l, ve, hst, xe, oe, hrow, hsz, hlog, hlen⟩ hK
          subst hT
          have hel := edgesL_length L
          have hS100 := HS.out
          have hl0 : 0 < l.length := by
            have := hlog.wi.lo
            rcases l with _ | ⟨x, l⟩
            · simp at this
            · simp
          have HLOG := Lib.hid hlog
          have HR := Lib.hid (rising_any hst.own (by omega) hl0 hst.hl (by omega) (by have := hst.xo.lt; omega))
          have co := hst.xo.cell
          clear hlog hmem HED HL
          gi_wp2_with fail
          refine ⟨trivial, ?_⟩
          refine (callsIn_wide.2 HR.out).mono ?_
          rintro e Y ⟨v', l', rfl, hown, hgr, hdg, hbl, hup, hmem, hsub⟩
          have hKY : Y.heap[D]? = some (.deferred (some [])) := (hgr.block D (Array.getElem?_eq_some_iff.1 hK).1 (fun e => by
            obtain ⟨cur, hb⟩ := hst.own.box e.symm
            rw [show X.heap[D]? = _ from hb] at hK
            cases hK)).trans hK
          have hEY : Ext w Y := (Stp.grown (bo := B + 1) hgr hdg).ext hst.ext (by have := HFX.out.h0; omega) (fun g e => by have := (hst.row e).1; have := HFX.out.h0; omega)
          have hgp : Grown Y (Y.putObj D (.deferred none)) (some D) := ⟨grownBy_putObj' Y D _, Nat.le_refl _⟩
          have hrp : ∀ r, some D = some r → w.heap.size ≤ r ∧ ∃ o : Obj, Y.heap[r]? = some o ∧ o.isCells = false := fun r e => by
            injection e with e
            subst e
            exact ⟨by omega, _, hKY, rfl⟩
          have hdp := dig_turn hgp hrp
          have HEV := Lib.hid (HLOG.out.events (fun e he => edges_in HIN.out he) hup hmem)
          have hll : l'.length ≤ l.length := by
            have h1 : (l'.map (·.q)).Nodup := hup.imp (fun h e => by rw [e] at h; grind)
            have h2 := h1.length_le_of_subset (fun q hq => (hmem q).1 hq)
            simpa using h2
          have HFIN := Lib.hid (show ∀ x ∈ l', x.At (Y.putObj D (.deferred none)) ∧ Sz 7 x.q from fun x hx => ⟨((hst.hl x (hsub x hx)).1.dk hdg).dk hdp, (hst.hl x (hsub x hx)).2⟩)
          have hext := ext_turn hEY (Nat.le_refl _) hgp hrp
          have hown' := (hown.turn hgp hrp).lower (show w.heap.size ≤ B by have := HFX.out.h0; omega)
          clear co HR hsub hmem hup hdg hgr hown
          gi_wp2
          refine ⟨by simp, .inl ⟨_, _, rfl, run_takeDeferred hKY, ?_⟩⟩
          exact ⟨_, results_tmp rfl _ _ _, v', l', rfl, hext, hown', HFIN.out, by omega, fun _ => HEV.out, fun h => by omega⟩
end Go.Proofs.YtodefmfgoehkhaaGreat
