/- The arguments opened: points, rows of points, rows of rows; the last step of a row. -/
import Derived.Test.YtodefmfgoehkhaaGreatZM
import Derived.ProofKit
import Derived.SizedLaws
import Derived.Deep.Slices
import Derived.Deep.SlicePairs
import Derived.Lib.SmallJoins
import Derived.Below
import Derived.ChangeSame
set_option linter.unusedVariables false
set_option linter.unusedSimpArgs false
namespace Go.Proofs.YtodefmfgoehkhaaGreat
open Go.ChangeShapes Go.WideShapes Go.ChangeAt Go.RowKit Go.Par Go.Deep Go.Joins

theorem Tryz.own : ownKnob Tryz.prog.godebug = none := by kernel_rfl
theorem Tryz.laidOut : laidOutB Tryz.prog = true := by kernel_rfl
theorem cellsPt : Tryz.prog.cellsOf 49 = 2 := by kernel_rfl
theorem cellsRow : Tryz.prog.cellsOf 47 = 1 := by kernel_rfl
theorem bytesPt : Tryz.prog.bytesOf 49 = 16 := by kernel_rfl
theorem bytesRow : Tryz.prog.bytesOf 47 = 24 := by kernel_rfl
section
variable {H : Type} {enc : TypeId × Value → H} {w : World} {base : Nat} {spare : Nat → Bool} {held : Bool}

theorem weightsAll_mem {P : Program} {e : TypeId} {l : List (DataW H)} {d : DataW H} {n : Nat} (hd : d ∈ l) (hn : n ∈ d.weights P e) : n ∈ DataW.weightsAll P e l := by
  induction l with
  | nil => cases hd
  | cons a l ih =>
    simp only [DataW.weightsAll, List.mem_append]
    rcases List.mem_cons.1 hd with rfl | h
    · exact .inl hn
    · exact .inr (ih h)
theorem addr_plain {w : World} {a : Addr} {v : Value} (h : w.cell? (a.add 0) = some v) : ∃ b o, a = ⟨b, o, none⟩ := by
  obtain ⟨b, off, spot⟩ := a
  have hspot : spot = none := by simpa [Addr.add] using World.cell?_spot h
  subst hspot
  exact ⟨b, off, rfl⟩
theorem pts_of_trod {fuel : Nat} {v : Value} {x : DataW H × List MemPlace} (h : DataW.trod enc Tryz.prog w base spare held fuel 47 [v] = some x)
    (hs : ∀ n ∈ x.1.weights Tryz.prog 47, n ≤ reachBytes) : ∃ l, Pts w v l := by
  rcases open_slice_pairs Tryz.underlying47 Tryz.underlying49 cellsPt rfl rfl (by kernel_rfl) (by kernel_rfl) h with ⟨hcs, hx⟩ | ⟨a, len, cap, m, n, V0, V1, D0, D1, P0, P1, hcs, hb, hl, hm, hmm, hx, hi⟩
  · injection hcs with e
    subst e
    exact ⟨[], none, 0, rfl, Nat.le_refl _, by decide, PtsAt.nil w _⟩
  · injection hcs with e
    subst e
    have hlm : len ≤ m := by rw [hmm]; split <;> omega
    have hsz := hs ((len + (m - len)) * 16) (by rw [hx]; simp [DataW.weights, Tryz.underlying47, bytesPt])
    have hlen : len ≤ 17592186044416 := by simp only [reachBytes] at hsz; omega
    have hl' : ((List.range len).map fun i => (intOf (V0 i), intOf (V1 i))).length = len := by simp
    refine ⟨(List.range len).map fun i => (intOf (V0 i), intOf (V1 i)), some a, cap, by rw [hl'], by rw [hl']; exact hl, by rw [hl']; exact hlen, fun hne => ?_⟩
    have h0 : 0 < len := by
      rcases Nat.eq_zero_or_pos len with h | h
      · subst h; exact absurd rfl hne
      · exact h
    obtain ⟨b, o, rfl⟩ := addr_plain (by have := (hi 0 (by omega)).1; rw [Nat.zero_mul] at this; exact this)
    refine ⟨b, o, rfl, fun i p hp => ?_⟩
    have hil : i < len := by have := (List.getElem?_eq_some_iff.1 hp).1; omega
    obtain ⟨c0, c1, t0, t1⟩ := hi i (by omega)
    obtain ⟨x0, e0, _, _⟩ := DataW.trod_int Tryz.underlying3 t0
    obtain ⟨x1, e1, _, _⟩ := DataW.trod_int Tryz.underlying3 t1
    simp only [List.cons.injEq, and_true] at e0 e1
    rw [e0] at c0
    rw [e1] at c1
    have : p = (x0, x1) := by
      rw [List.getElem?_map, List.getElem?_range hil] at hp
      simp only [Option.map_some, Option.some.injEq, e0, e1] at hp
      exact hp.symm
    subst this
    rw [Addr.add_lit] at c0 c1
    exact ⟨c0, by rw [Nat.add_assoc]; exact c1⟩
theorem rings_of_trod {fuel : Nat} {v : Value} {x : DataW H × List MemPlace} (h : DataW.trod enc Tryz.prog w base spare held fuel 22 [v] = some x)
    (hs : ∀ n ∈ x.1.weights Tryz.prog 22, n ≤ reachBytes) : ∃ L, Rings w v L := by
  rcases open_slice1 Tryz.underlying22 cellsRow h with ⟨hcs, hx⟩ | ⟨a, len, cap, m, n, V, D, Pl, hcs, hb, hl, hm, hmm, hx, hi⟩
  · injection hcs with e
    subst e
    exact ⟨[], none, 0, rfl, Nat.le_refl _, by decide, fun h => absurd rfl h⟩
  · injection hcs with e
    subst e
    have hlm : len ≤ m := by rw [hmm]; split <;> omega
    have hsz := hs ((len + (m - len)) * 24) (by rw [hx]; simp [DataW.weights, Tryz.underlying22, bytesRow])
    have hlen : len ≤ 17592186044416 := by simp only [reachBytes] at hsz; omega
    have each : ∀ i, i < len → ∃ l, Pts w (V i) l := fun i hi' => by
      have hin : ∀ k ∈ (D i).weights Tryz.prog 47, k ≤ reachBytes := fun k hk => hs k (by
        rw [hx]
        simp only [DataW.weights, Tryz.underlying22, List.mem_cons, List.mem_append]
        exact .inr (.inl (weightsAll_mem (List.mem_map.2 ⟨i, List.mem_range.2 hi', rfl⟩) hk)))
      exact pts_of_trod (hi i (by omega)).2 hin
    obtain ⟨f, hf⟩ := choose_lt (α := List P2) (p := fun i l => Pts w (V i) l) each
    have hl' : ((List.range len).map f).length = len := by simp
    refine ⟨(List.range len).map f, some a, cap, by rw [hl'], by rw [hl']; exact hl, by rw [hl']; exact hlen, fun hne => ?_⟩
    have h0 : 0 < len := by
      rcases Nat.eq_zero_or_pos len with h | h
      · subst h; exact absurd rfl hne
      · exact h
    obtain ⟨b, o, rfl⟩ := addr_plain (hi 0 (by omega)).1
    refine ⟨b, o, rfl, fun i p hp => ?_⟩
    have hil : i < len := by have := (List.getElem?_eq_some_iff.1 hp).1; omega
    rw [List.getElem?_map, List.getElem?_range hil] at hp
    simp only [Option.map_some, Option.some.injEq] at hp
    subst hp
    have c := (hi i (by omega)).1
    rw [Addr.add_lit] at c
    exact ⟨V i, c, hf i hil⟩
/-- the weights of one argument -/
theorem sized_arg {ts : List TypeId} {ds : List (DataW H)} (h : (DataW.weightsEach Tryz.prog ts ds).all (· ≤ reachBytes) = true) {j : Nat} {t : TypeId} {d : DataW H} (ht : ts[j]? = some t) (hd : ds[j]? = some d) :
    ∀ n ∈ d.weights Tryz.prog t, n ≤ reachBytes := fun n hn => by
  have := List.all_eq_true.1 h _ (DataW.weights_mem_each ht hd n hn)
  simpa using this
set_option maxRecDepth 100000 in
/-- a point by value -/
theorem open_point {v : Value} {d : DataW H} {p : List MemPlace} {r : Reach} {b0 : Nat} (hv : Value.okWide Tryz.prog w r b0 49 v) (h : DataW.Trod enc Tryz.prog w base spare held 49 v d p) :
    ∃ x y : Int, v = .agg #[.int .i64 x, .int .i64 y] ∧ (-9223372036854775808 ≤ x ∧ x ≤ 9223372036854775807) ∧ (-9223372036854775808 ≤ y ∧ y ≤ 9223372036854775807) := by
  obtain ⟨v0, v1, y0, y1, m, rfl, _, _, h0, h1⟩ := open_agg2 Tryz.underlying49 (by kernel_rfl) cellsPt hv h
  obtain ⟨x, e0, _, wx⟩ := DataW.trod_int Tryz.underlying3 h0
  obtain ⟨y, e1, _, wy⟩ := DataW.trod_int Tryz.underlying3 h1
  simp only [List.cons.injEq, and_true] at e0 e1
  subst e0 e1
  have k1 : IntKind.i64.min = -9223372036854775808 := rfl
  have k2 : IntKind.i64.max = 9223372036854775807 := rfl
  simp only [Lit.wf, Bool.and_eq_true, decide_eq_true_eq] at wx wy
  exact ⟨x, y, rfl, by omega, by omega⟩
theorem wf_bd {x : Int} (wx : (Lit.int .i64 x).wf = true) : -9223372036854775808 ≤ x ∧ x ≤ 9223372036854775807 := by
  have k1 : IntKind.i64.min = -9223372036854775808 := rfl
  have k2 : IntKind.i64.max = 9223372036854775807 := rfl
  simp only [Lit.wf, Bool.and_eq_true, decide_eq_true_eq] at wx
  omega
end
section
variable {H : Type} {enc : TypeId × Value → H}
def readB (P : Program) (t : TypeId) : Bool := P.readableRec t && decide (t < P.types.size)
theorem trodAll_later {P : Program} (hl : laidOutB P = true) {W W' : World} (hb : Ext W W') {ts : List TypeId} {vs : List Value} {ds : List (DataW H)} {ps : List MemPlace}
    (hr : ts.all (readB P) = true) (h : DataW.TrodAll enc P W 0 (fun _ => true) true ts vs ds ps) (hlt : ∀ x ∈ ps, x.block < W.heap.size) :
    DataW.TrodAll enc P W' 0 (fun b => decide (b < W.heap.size)) true ts vs ds ps := by
  induction ts generalizing vs ds ps with
  | nil =>
    obtain ⟨rfl, rfl, rfl⟩ := trodAll_nil h
    exact trodAll_mk0
  | cons t ts ih =>
    obtain ⟨v, vs', d, ds', p, q, rfl, rfl, rfl, h0, h1⟩ := trodAll_cons h
    rw [List.all_cons, Bool.and_eq_true, readB, Bool.and_eq_true, decide_eq_true_eq] at hr
    exact ⟨p, q, Below.trod hl hr.1.1 hr.1.2 h0 hb.1 (fun x hx => hlt x (List.mem_append_left _ hx)), ih hr.2 h1 (fun x hx => hlt x (List.mem_append_right _ hx)), rfl⟩
/-- the last step of a law: it returned true, and all that was there is as it was -/
theorem law_post {f : Func} {s : ChangeSpec} {W W' : World} {args : Array Value} {ds : List (DataW H)} {before : List MemPlace} (hW : DataW.Whole enc Tryz.prog f.params.toList s.vars false W args.toList ds [] before)
    (hvars : s.vars = []) (hres : f.resultTypes = #[4]) (hr : (s.fn H (ds ++ [])).results = [.lit (.bool true)]) (ha : (s.fn H (ds ++ [])).args = ds) (hv : (s.fn H (ds ++ [])).vars = [])
    (hread : f.params.toList.all (readB Tryz.prog) = true) (hb : Ext W W') :
    s.post enc Tryz.prog f false true false false W args (.bool true) W' := by
  have hW' := hW
  obtain ⟨p, q, hA, hV, he, _, _⟩ := hW
  rw [hvars] at hV
  obtain ⟨_, rfl⟩ := trodVars_none hV
  have hlt : ∀ x ∈ p, x.block < W.heap.size := fun x hx => hW'.lt x (by rw [he]; simp [hx])
  refine ⟨ds, [], before, [], p, [], hW', ?_, ?_, ?_, Below.frame hb.1 _, fun h => by cases h⟩
  · rw [hr, hres]
    exact trodAll_mk1 (shut_bool Tryz.underlying4 true)
  · rw [ha]
    exact trodAll_later Tryz.laidOut hb hread hA hlt
  · rw [hv, hvars]
    exact rfl
end
end Go.Proofs.YtodefmfgoehkhaaGreat
