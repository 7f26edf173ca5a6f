/- The arguments opened: rectangles, arrays of numbers, bitmaps, rows of bitmaps; the last step of a row. -/
import Derived.Test.YtefdheoalonbaaaEx
import Derived.ProofKit
import Derived.SizedLaws
import Derived.Deep.Slices
import Derived.Lib.SmallJoins
import Derived.Laws.IdiomArrays
import Derived.Below
import Derived.ChangeSame
set_option linter.unusedVariables false
set_option linter.unusedSimpArgs false
namespace Go.Proofs.Ytefdheoalonbaaa
open Go.ChangeShapes Go.WideShapes Go.ChangeAt Go.RowKit Go.Par Go.Deep Go.Joins

theorem Try.own : ownKnob Try.prog.godebug = none := by kernel_rfl
theorem Try.laidOut : laidOutB Try.prog = true := by kernel_rfl
theorem cellsRect : Try.prog.cellsOf 23 = 4 := by kernel_rfl
theorem cellsPx : Try.prog.cellsOf 41 = 4 := by kernel_rfl
theorem cellsBm : Try.prog.cellsOf 34 = 5 := by kernel_rfl
theorem cellsInt : Try.prog.cellsOf 3 = 1 := by kernel_rfl
section
variable {H : Type} {enc : TypeId × Value → H} {w : World} {base : Nat} {spare : Nat → Bool} {held : Bool}

theorem addr_plain {w : World} {a : Addr} {v : Value} (h : w.cell? (a.add 0) = some v) : ∃ b o, a = ⟨b, o, none⟩ := by
  obtain ⟨b, off, spot⟩ := a
  have hspot : spot = none := by simpa [Addr.add] using World.cell?_spot h
  subst hspot
  exact ⟨b, off, rfl⟩
/-- a slice opened whose elements lie as E says -/
theorem row_of_trod {α : Type} [Inhabited α] (E : EL Try.prog α) (Q : α → Prop) (hc : Try.prog.cellsOf E.t = E.size) (hel : ∀ n cs y, DataW.trod enc Try.prog w base spare held n E.t cs = some y → ∃ x, cs = E.enc x ∧ Q x) {fuel : Nat} {v : Value} {x : DataW H × List MemPlace}
    (h : DataW.trod enc Try.prog w base spare held fuel E.st [v] = some x) : ∃ A n c l, v = .slice A n c ∧ l.length = n ∧ n ≤ c ∧ c ≤ maxLen ∧ E.At w A l ∧ ∀ x ∈ l, Q x := by
  rcases open_slice E.und h with ⟨hcs, hx⟩ | ⟨a, len, cap, m, n, D, Pl, hcs, hb, hl, hm, hmm, hx, hi⟩
  · injection hcs with e
    exact ⟨none, 0, 0, [], e, rfl, Nat.le_refl _, Nat.zero_le _, EL.At.nil w _, fun x hx => by cases hx⟩
  · injection hcs with e
    have hlm : len ≤ m := by rw [hmm]; split <;> omega
    have each : ∀ i, i < len → ∃ x, Q x ∧ ∀ j u, (E.enc x)[j]? = some u → w.cell? (a.add (i * E.size + j)) = some u := fun i hil => by
      obtain ⟨cs', h1, h2⟩ := hi i (by omega)
      rw [hc] at h1
      obtain ⟨x, e, hq⟩ := hel _ _ _ h2
      obtain ⟨_, hlen, hcell⟩ := World.cells?_some h1
      refine ⟨x, hq, fun j u hu => ?_⟩
      have hj := (List.getElem?_eq_some_iff.1 hu).1
      rw [E.len] at hj
      have := hcell j hj
      rw [add_add, e, hu] at this
      exact this
    obtain ⟨f, hf⟩ := choose_lt (α := α) (p := fun i x => Q x ∧ ∀ j u, (E.enc x)[j]? = some u → w.cell? (a.add (i * E.size + j)) = some u) each
    have hl' : ((List.range len).map f).length = len := by simp
    refine ⟨some a, len, cap, (List.range len).map f, e, hl', hl, hm, fun hne => ?_, fun x hx => ?_⟩
    · have h0 : 0 < len := by
        rcases Nat.eq_zero_or_pos len with h | h
        · subst h; exact absurd rfl hne
        · exact h
      obtain ⟨u, hu⟩ := E.enc_some (f 0) E.pos
      have h00 := (hf 0 h0).2 0 u hu
      rw [Nat.zero_mul] at h00
      obtain ⟨b, o, rfl⟩ := addr_plain h00
      refine ⟨b, o, rfl, fun i x hx j u hu => ?_⟩
      have hil : i < len := by have := (List.getElem?_eq_some_iff.1 hx).1; omega
      rw [List.getElem?_map, List.getElem?_range hil] at hx
      simp only [Option.map_some, Option.some.injEq] at hx
      subst hx
      have := (hf i hil).2 j u hu
      rw [Addr.add_lit] at this
      rw [Nat.add_assoc]
      exact this
    · obtain ⟨i, hi, rfl⟩ := List.mem_map.1 hx
      exact (hf i (List.mem_range.1 hi)).1
theorem trod_u8 {n : Nat} {v : Value} {y : DataW H × List MemPlace} (h : DataW.trod enc Try.prog w base spare held n 5 [v] = some y) : ∃ x : Int, v = .int .u8 x := by
  obtain ⟨x, e, _, _⟩ := DataW.trod_int Try.underlying5 h
  simp only [List.cons.injEq, and_true] at e
  exact ⟨x, e⟩
theorem trod_i64 {n : Nat} {v : Value} {y : DataW H × List MemPlace} (h : DataW.trod enc Try.prog w base spare held n 3 [v] = some y) : ∃ x : Int, v = .int .i64 x ∧ -9223372036854775808 ≤ x ∧ x ≤ 9223372036854775807 := by
  obtain ⟨x, e, _, wx⟩ := DataW.trod_int Try.underlying3 h
  simp only [List.cons.injEq, and_true] at e
  have k1 : IntKind.i64.min = -9223372036854775808 := rfl
  have k2 : IntKind.i64.max = 9223372036854775807 := rfl
  simp only [Lit.wf, Bool.and_eq_true, decide_eq_true_eq] at wx
  exact ⟨x, e, by omega, by omega⟩
theorem len4 {l : List Value} (h : l.length = 4) : ∃ a b c d, l = [a, b, c, d] := by
  match l, h with
  | [a, b, c, d], _ => exact ⟨a, b, c, d, rfl⟩
theorem len5 {l : List Value} (h : l.length = 5) : ∃ a b c d e, l = [a, b, c, d, e] := by
  match l, h with
  | [a, b, c, d, e], _ => exact ⟨a, b, c, d, e, rfl⟩
theorem px_of_trod (n : Nat) (cs : List Value) (y : DataW H × List MemPlace) (h : DataW.trod enc Try.prog w base spare held n 41 cs = some y) : ∃ p : P4, cs = pixE.enc p ∧ True := by
  obtain ⟨y0, y1, y2, y3, m, _, hl, h0, h1, h2, h3⟩ := trod_struct4 Try.underlying41 h
  obtain ⟨a, b, c, d, rfl⟩ := len4 (hl.trans cellsPx)
  have c1 : Try.prog.cellsOf 5 = 1 := by kernel_rfl
  simp [c1] at h0 h1 h2 h3
  obtain ⟨x0, rfl⟩ := trod_u8 h0
  obtain ⟨x1, rfl⟩ := trod_u8 h1
  obtain ⟨x2, rfl⟩ := trod_u8 h2
  obtain ⟨x3, rfl⟩ := trod_u8 h3
  exact ⟨(x0, x1, x2, x3), rfl, trivial⟩
theorem rect_of_trod {n : Nat} {cs : List Value} {y : DataW H × List MemPlace} (h : DataW.trod enc Try.prog w base spare held n 23 cs = some y) : ∃ r : R4, cs = [.int .i64 r.1, .int .i64 r.2.1, .int .i64 r.2.2.1, .int .i64 r.2.2.2] ∧
    (-9223372036854775808 ≤ r.1 ∧ r.1 ≤ 9223372036854775807) ∧ (-9223372036854775808 ≤ r.2.1 ∧ r.2.1 ≤ 9223372036854775807) ∧ (-9223372036854775808 ≤ r.2.2.1 ∧ r.2.2.1 ≤ 9223372036854775807) ∧ (-9223372036854775808 ≤ r.2.2.2 ∧ r.2.2.2 ≤ 9223372036854775807) := by
  obtain ⟨y0, y1, y2, y3, m, _, hl, h0, h1, h2, h3⟩ := trod_struct4 Try.underlying23 h
  obtain ⟨a, b, c, d, rfl⟩ := len4 (hl.trans cellsRect)
  simp [cellsInt] at h0 h1 h2 h3
  obtain ⟨x0, rfl, b0⟩ := trod_i64 h0
  obtain ⟨x1, rfl, b1⟩ := trod_i64 h1
  obtain ⟨x2, rfl, b2⟩ := trod_i64 h2
  obtain ⟨x3, rfl, b3⟩ := trod_i64 h3
  exact ⟨(x0, x1, x2, x3), rfl, b0, b1, b2, b3⟩
/-- the slice of a bitmap reads as pixels -/
def PxOf (w : World) (s : BS) : Prop := ∃ l, l.length = s.2.2.1 ∧ s.2.2.1 ≤ s.2.2.2 ∧ s.2.2.2 ≤ maxLen ∧ pixE.At w s.2.1 l
theorem bm_of_trod (n : Nat) (cs : List Value) (y : DataW H × List MemPlace) (h : DataW.trod enc Try.prog w base spare held n 34 cs = some y) : ∃ s : BS, cs = bmE.enc s ∧ PxOf w s := by
  obtain ⟨y0, y1, m, _, hl, h0, h1⟩ := trod_struct2 Try.underlying34 h
  obtain ⟨a, b, c, d, e, rfl⟩ := len5 (hl.trans cellsBm)
  have cs1 : Try.prog.cellsOf 32 = 1 := by kernel_rfl
  simp [cellsRect, cs1] at h0 h1
  obtain ⟨r, hr, _⟩ := rect_of_trod h0
  obtain ⟨A, k, cap, l, rfl, hlk, hkc, hcm, hat, _⟩ := row_of_trod pixE (fun _ => True) cellsPx px_of_trod h1
  simp only [List.cons.injEq, and_true] at hr
  obtain ⟨rfl, rfl, rfl, rfl⟩ := hr
  exact ⟨(r, A, k, cap), rfl, l, hlk, hkc, hcm, hat⟩
set_option maxRecDepth 100000 in
theorem open_rect {v : Value} {d : DataW H} {p : List MemPlace} {r : Reach} {b0 : Nat} (hv : Value.okWide Try.prog w r b0 23 v) (h : DataW.Trod enc Try.prog w base spare held 23 v d p) :
    ∃ x0 y0 x1 y1 : Int, v = .agg #[.int .i64 x0, .int .i64 y0, .int .i64 x1, .int .i64 y1] ∧ (-9223372036854775808 ≤ x0 ∧ x0 ≤ 9223372036854775807) ∧ (-9223372036854775808 ≤ y0 ∧ y0 ≤ 9223372036854775807) ∧ (-9223372036854775808 ≤ x1 ∧ x1 ≤ 9223372036854775807) ∧ (-9223372036854775808 ≤ y1 ∧ y1 ≤ 9223372036854775807) := by
  obtain ⟨cs, rfl, hsz⟩ := okWide_struct Try.underlying23 hv
  obtain ⟨f, hf⟩ := h
  obtain ⟨⟨x0, y0, x1, y1⟩, hr, b0, b1, b2, b3⟩ := rect_of_trod hf
  have : cs.toList = [.int .i64 x0, .int .i64 y0, .int .i64 x1, .int .i64 y1] := hr
  refine ⟨x0, y0, x1, y1, ?_, b0, b1, b2, b3⟩
  rw [← Array.toArray_toList (xs := cs), this]
set_option maxRecDepth 100000 in
theorem open_bitmap {v : Value} {d : DataW H} {p : List MemPlace} {r : Reach} {b0 : Nat} (hv : Value.okWide Try.prog w r b0 34 v) (h : DataW.Trod enc Try.prog w base spare held 34 v d p) :
    ∃ (x0 y0 x1 y1 : Int) (A : Option Addr) (n c : Nat) (l : List P4), v = .agg #[.int .i64 x0, .int .i64 y0, .int .i64 x1, .int .i64 y1, .slice A n c] ∧ l.length = n ∧ n ≤ c ∧ c ≤ maxLen ∧ pixE.At w A l := by
  obtain ⟨cs, rfl, hsz⟩ := okWide_struct Try.underlying34 hv
  obtain ⟨f, hf⟩ := h
  obtain ⟨⟨⟨x0, y0, x1, y1⟩, A, n, c⟩, hs, l, h1, h2, h3, h4⟩ := bm_of_trod _ _ _ hf
  have : cs.toList = [.int .i64 x0, .int .i64 y0, .int .i64 x1, .int .i64 y1, .slice A n c] := hs
  refine ⟨x0, y0, x1, y1, A, n, c, l, ?_, h1, h2, h3, h4⟩
  rw [← Array.toArray_toList (xs := cs), this]
set_option maxRecDepth 100000 in
theorem okWide_array {r : Reach} {b0 : Nat} {t e : TypeId} {n : Nat} {v : Value} (ht : Try.prog.underlying t = some (.array n e)) (h : Value.okWide Try.prog w r b0 t v) : ∃ cs, v = .agg cs ∧ cs.size = Try.prog.cellsOf t := by
  simp only [Value.okWide, ht] at h
  obtain ⟨cs, h1, h2, _⟩ := h
  exact ⟨cs, h1, h2⟩
theorem trod_array2 {t e : TypeId} {fuel : Nat} {c0 c1 : Value} {x : DataW H × List MemPlace} (ht : Try.prog.underlying t = some (.array 2 e)) (hce : Try.prog.cellsOf e = 1)
    (h : DataW.trod enc Try.prog w base spare held fuel t [c0, c1] = some x) :
    ∃ y0 y1 n, DataW.trod enc Try.prog w base spare held n e [c0] = some y0 ∧ DataW.trod enc Try.prog w base spare held n e [c1] = some y1 := by
  cases fuel with
  | zero => simp [DataW.trod] at h
  | succ n =>
    unfold DataW.trod at h
    rw [ht] at h
    have r3 : List.range 2 = [0, 1] := rfl
    simp [r3, hce] at h
    obtain ⟨_, h⟩ := h
    cases h0 : DataW.trod enc Try.prog w base spare held n e [c0] with
    | none => simp [h0] at h
    | some y0 =>
      cases h1 : DataW.trod enc Try.prog w base spare held n e [c1] with
      | none => simp [h0, h1] at h
      | some y1 => exact ⟨y0, y1, n, h0, h1⟩
set_option maxRecDepth 100000 in
theorem open_arr3 {v : Value} {d : DataW H} {p : List MemPlace} {r : Reach} {b0 : Nat} (hv : Value.okWide Try.prog w r b0 24 v) (h : DataW.Trod enc Try.prog w base spare held 24 v d p) :
    ∃ a b c : Int, v = .agg #[.int .i64 a, .int .i64 b, .int .i64 c] ∧ (-9223372036854775808 ≤ a ∧ a ≤ 9223372036854775807) ∧ (-9223372036854775808 ≤ b ∧ b ≤ 9223372036854775807) ∧ (-9223372036854775808 ≤ c ∧ c ≤ 9223372036854775807) := by
  obtain ⟨cs, rfl, hsz⟩ := okWide_array Try.underlying24 hv
  obtain ⟨c0, c1, c2, rfl⟩ := array3 (hsz.trans (by kernel_rfl))
  obtain ⟨f, hf⟩ := h
  obtain ⟨y0, y1, y2, n, _, h0, h1, h2⟩ := trod_array3 Try.underlying24 cellsInt hf
  obtain ⟨x0, rfl, b0⟩ := trod_i64 h0
  obtain ⟨x1, rfl, b1⟩ := trod_i64 h1
  obtain ⟨x2, rfl, b2⟩ := trod_i64 h2
  exact ⟨x0, x1, x2, rfl, b0, b1, b2⟩
set_option maxRecDepth 100000 in
theorem open_arr2 {v : Value} {d : DataW H} {p : List MemPlace} {r : Reach} {b0 : Nat} (hv : Value.okWide Try.prog w r b0 25 v) (h : DataW.Trod enc Try.prog w base spare held 25 v d p) :
    ∃ a b : Int, v = .agg #[.int .i64 a, .int .i64 b] ∧ (-9223372036854775808 ≤ a ∧ a ≤ 9223372036854775807) ∧ (-9223372036854775808 ≤ b ∧ b ≤ 9223372036854775807) := by
  obtain ⟨cs, rfl, hsz⟩ := okWide_array Try.underlying25 hv
  obtain ⟨c0, c1, rfl⟩ := array2 (hsz.trans (by kernel_rfl))
  obtain ⟨f, hf⟩ := h
  obtain ⟨y0, y1, n, h0, h1⟩ := trod_array2 Try.underlying25 cellsInt hf
  obtain ⟨x0, rfl, b0⟩ := trod_i64 h0
  obtain ⟨x1, rfl, b1⟩ := trod_i64 h1
  exact ⟨x0, x1, rfl, b0, b1⟩
theorem bms_of_trod {fuel : Nat} {v : Value} {x : DataW H × List MemPlace} (h : DataW.trod enc Try.prog w base spare held fuel 35 [v] = some x) : ∃ A n c ss, v = .slice A n c ∧ ss.length = n ∧ n ≤ c ∧ c ≤ maxLen ∧ bmE.At w A ss ∧ ∀ s ∈ ss, PxOf w s :=
  row_of_trod bmE (PxOf w) cellsBm bm_of_trod h
theorem wf_bd {x : Int} (wx : (Lit.int .i64 x).wf = true) : -9223372036854775808 ≤ x ∧ x ≤ 9223372036854775807 := by
  have k1 : IntKind.i64.min = -9223372036854775808 := rfl
  have k2 : IntKind.i64.max = 9223372036854775807 := rfl
  simp only [Lit.wf, Bool.and_eq_true, decide_eq_true_eq] at wx
  omega
theorem wf_bdU {x : Int} (wx : (Lit.int .u64 x).wf = true) : 0 ≤ x ∧ x ≤ 18446744073709551615 := by
  have k1 : IntKind.u64.min = 0 := rfl
  have k2 : IntKind.u64.max = 18446744073709551615 := rfl
  simp only [Lit.wf, Bool.and_eq_true, decide_eq_true_eq] at wx
  omega
theorem wf_bd8 {x : Int} (wx : (Lit.int .i8 x).wf = true) : -128 ≤ x ∧ x ≤ 127 := by
  have k1 : IntKind.i8.min = -128 := rfl
  have k2 : IntKind.i8.max = 127 := rfl
  simp only [Lit.wf, Bool.and_eq_true, decide_eq_true_eq] at wx
  omega
end
section
variable {H : Type} {enc : TypeId × Value → H}
def readB (P : Program) (t : TypeId) : Bool := P.readableRec t && decide (t < P.types.size)
theorem trodAll_later {P : Program} (hl : laidOutB P = true) {W W' : World} (hb : Ext W W') {ts : List TypeId} {vs : List Value} {ds : List (DataW H)} {ps : List MemPlace}
    (hr : ts.all (readB P) = true) (h : DataW.TrodAll enc P W 0 (fun _ => true) true ts vs ds ps) (hlt : ∀ x ∈ ps, x.block < W.heap.size) :
    DataW.TrodAll enc P W' 0 (fun b => decide (b < W.heap.size)) true ts vs ds ps := by
  induction ts generalizing vs ds ps with
  | nil =>
    obtain ⟨rfl, rfl, rfl⟩ := trodAll_nil h
    exact trodAll_mk0
  | cons t ts ih =>
    obtain ⟨v, vs', d, ds', p, q, rfl, rfl, rfl, h0, h1⟩ := trodAll_cons h
    rw [List.all_cons, Bool.and_eq_true, readB, Bool.and_eq_true, decide_eq_true_eq] at hr
    exact ⟨p, q, Below.trod hl hr.1.1 hr.1.2 h0 hb (fun x hx => hlt x (List.mem_append_left _ hx)), ih hr.2 h1 (fun x hx => hlt x (List.mem_append_right _ hx)), rfl⟩
/-- the last step of a law: it returned true, and all that was there is as it was -/
theorem law_post {f : Func} {s : ChangeSpec} {W W' : World} {args : Array Value} {ds : List (DataW H)} {before : List MemPlace} (hW : DataW.Whole enc Try.prog f.params.toList s.vars false W args.toList ds [] before)
    (hvars : s.vars = []) (hres : f.resultTypes = #[4]) (hr : (s.fn H (ds ++ [])).results = [.lit (.bool true)]) (ha : (s.fn H (ds ++ [])).args = ds) (hv : (s.fn H (ds ++ [])).vars = [])
    (hread : f.params.toList.all (readB Try.prog) = true) (hb : Ext W W') :
    s.post enc Try.prog f false true false false W args (.bool true) W' := by
  have hW' := hW
  obtain ⟨p, q, hA, hV, he, _, _⟩ := hW
  rw [hvars] at hV
  obtain ⟨_, rfl⟩ := trodVars_none hV
  have hlt : ∀ x ∈ p, x.block < W.heap.size := fun x hx => hW'.lt x (by rw [he]; simp [hx])
  refine ⟨ds, [], before, [], p, [], hW', ?_, ?_, ?_, Below.frame hb _, fun h => by cases h⟩
  · rw [hr, hres]
    exact trodAll_mk1 (shut_bool Try.underlying4 true)
  · rw [ha]
    exact trodAll_later Try.laidOut hb hread hA hlt
  · rw [hv, hvars]
    exact rfl
end
end Go.Proofs.Ytefdheoalonbaaa
