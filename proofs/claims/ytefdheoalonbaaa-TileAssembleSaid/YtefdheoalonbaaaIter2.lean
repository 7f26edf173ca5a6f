/- starts, and the iterator of rect.Tiles: a range over an iterator in the body of a range over an iterator. -/
import Derived.Test.YtefdheoalonbaaaIter
set_option linter.unusedVariables false
set_option linter.unusedSimpArgs false
namespace Go.Proofs.Ytefdheoalonbaaa
open Go.RowKit Go.Par Go.Shelf
attribute [local go_sem] Oper.semAt_some

abbrev R4 := Int × Int × Int × Int
def rectV (r : R4) : Value := .agg #[.int .i64 r.1, .int .i64 r.2.1, .int .i64 r.2.2.1, .int .i64 r.2.2.2]
/-- numbers of some size -/
abbrev I5 := { x : Int // -100000 ≤ x ∧ x ≤ 100000 }
set_option maxHeartbeats 1000000 in
theorem starts_in (n : Nat) (lo to by_ : Int) (w : World) :
    CallsIn Fence.wide n Try.prog 81 #[.int .i64 lo, .int .i64 to, .int .i64 by_] w fun e w' =>
      e = .returned (.func (.func 94) #[] #[.pointer (some ⟨w.heap.size, 0, none⟩), .pointer (some ⟨w.heap.size + 1, 0, none⟩), .pointer (some ⟨w.heap.size + 1 + 1, 0, none⟩)]) ∧
      w' = ((w.alloc (.cells #[.int .i64 lo] 3)).alloc (.cells #[.int .i64 to] 3)).alloc (.cells #[.int .i64 by_] 3) := by
  refine callsIn_of_wp Try.func81 rfl trivial ?_ rfl
  simp only [Try.ntmps81, List.size_toArray, List.length_cons, List.length_nil, Nat.reduceAdd, Nat.reduceSub, Array.replicate_succ, Array.replicate_zero, List.push_toArray, List.append_toArray, List.nil_append, List.cons_append]
  gi_wp2
  go_ret
  exact ⟨rfl, rfl⟩
/-- the list of the subtype -/
theorem lift5 : ∀ (l : List Int), (∀ x ∈ l, -100000 ≤ x ∧ x ≤ 100000) → ∃ m : List I5, m.map (·.1) = l
  | [], _ => ⟨[], rfl⟩
  | x :: l, h => by
    obtain ⟨m, hm⟩ := lift5 l fun y hy => h y (List.mem_cons_of_mem _ hy)
    exact ⟨⟨x, h x (List.mem_cons_self ..)⟩ :: m, by rw [List.map_cons, hm]⟩
theorem map5_inj : ∀ {l m : List I5}, l.map (·.1) = m.map (·.1) → l = m
  | [], [], _ => rfl
  | [], _ :: _, h => by cases h
  | _ :: _, [], h => by cases h
  | x :: l, y :: m, h => by
    simp only [List.map_cons, List.cons.injEq] at h
    rw [map5_inj h.2, Subtype.ext h.1]
theorem starts_stops (n : Nat) (Bf Bt Bb : Nat) (lo to by_ : Int) (m : Nat) (h1 : -100000 ≤ lo) (h2 : to ≤ 100000) (h3 : 1 ≤ by_) (h4 : by_ ≤ 9223372036854775807) (hlt : ∀ k : Nat, k < m → lo + (k : Int) * by_ < to) (hend : to ≤ lo + (m : Int) * by_)
    (Kp : World → World → Prop) (hKr : ∀ A, Kp A A) (hKt : ∀ {A B C : World}, Kp A B → Kp B C → Kp A C) (hkeep : ∀ A B b v, Kp A B → Box A b 3 #[v] → Box B b 3 #[v]) (w : World)
    (bf : Box w Bf 3 #[.int .i64 lo]) (bt : Box w Bt 3 #[.int .i64 to]) (bb : Box w Bb 3 #[.int .i64 by_]) :
    SeqStopsK Fence.wide n Try.prog 94 #[.pointer (some ⟨Bf, 0, none⟩), .pointer (some ⟨Bt, 0, none⟩), .pointer (some ⟨Bb, 0, none⟩)] (fun x : I5 => #[Value.int .i64 x.1]) Kp
      (fun ys => ys.map (·.1) = startL lo by_ m) (fun pre => pre.map (·.1) <+: startL lo by_ m) m w := fun l J Jx W hW _ _ hY h0 => by
  have hb : ∀ {b v}, Box w b 3 #[v] → Box W b 3 #[v] := fun h => (hW.block _ h.lt).trans h
  refine (starts1_in n l Bf Bt Bb lo to by_ m h1 h2 h3 h4 hlt hend Kp hKr hKt hkeep (fun xs W => ∃ ys : List I5, ys.map (·.1) = xs ∧ J ys W) (fun xs W => ∃ ys : List I5, ys.map (·.1) = xs ∧ Jx ys W) ?_ W (hb bf) (hb bt) (hb bb) ⟨[], rfl, h0⟩).mono ?_
  · rintro pre x W1 ⟨ys, rfl, hj⟩ hlen hlo hto
    have hx : -100000 ≤ x ∧ x ≤ 100000 := ⟨by omega, by omega⟩
    refine (hY ys ⟨x, hx⟩ W1 hj (by simpa using hlen)).mono ?_
    rintro e W' (⟨rfl, hj', hk⟩ | ⟨rfl, hj'⟩)
    · exact .inl ⟨rfl, ⟨ys ++ [⟨x, hx⟩], by simp, hj'⟩, hk⟩
    · exact .inr ⟨rfl, ⟨ys ++ [⟨x, hx⟩], by simp, hj'⟩⟩
  · rintro e W' ⟨hv, ⟨_, rfl, ys, h, hj⟩ | ⟨pre, hp, ys, rfl, hj⟩⟩
    · exact ⟨hv, .inl ⟨ys, h, hj⟩⟩
    · exact ⟨hv, .inr ⟨ys, hp, hj⟩⟩
def rectOf (x1 y1 wd ht : Int) (y x : Int) : R4 := (x, y, x + min wd (x1 - x), y + min ht (y1 - y))
def rowsOf (x0 x1 y1 wd ht : Int) (mx : Nat) (ys : List Int) : List R4 := ys.flatMap fun y => (startL x0 wd mx).map (rectOf x1 y1 wd ht y)
theorem _root_.Go.KeepsFrom.mono {B B' : Nat} {X Y : World} (h : KeepsFrom B X Y) (hb : B ≤ B') : KeepsFrom B' X Y := ⟨h.size, fun k o hk => h.same k o (Nat.le_trans hb hk)⟩
theorem rowsOf_length (x0 x1 y1 wd ht : Int) (mx : Nat) (ys : List Int) : (rowsOf x0 x1 y1 wd ht mx ys).length = ys.length * mx := by
  unfold rowsOf
  induction ys with
  | nil => simp
  | cons y ys ih => rw [List.flatMap_cons, List.length_append, ih, List.length_map, startL_length, List.length_cons, Nat.add_mul]; omega
theorem cell_lt {p q a b : Nat} (h1 : p < a) (h2 : q < b) : p * b + q < a * b := by
  have := Nat.mul_le_mul_right b (show p + 1 ≤ a from h1)
  rw [Nat.add_mul] at this
  omega
set_option maxRecDepth 100000 in
set_option maxHeartbeats 2000000 in
theorem tiles1_in (n : Nat) (hn : 12 ≤ n) (l Bw Bh Br c₀ Bo : Nat) (x0 y0 x1 y1 wd ht : Int) (mx my : Nat) (hx0 : -5000 ≤ x0) (hx1 : -5000 ≤ x1 ∧ x1 ≤ 5000) (hy0 : -5000 ≤ y0) (hy1 : -5000 ≤ y1 ∧ y1 ≤ 5000) (hw : 1 ≤ wd) (hh : 1 ≤ ht) (hw2 : wd ≤ 9223372036854775807) (hh2 : ht ≤ 9223372036854775807)
    (hxl : ∀ k : Nat, k < mx → x0 + (k : Int) * wd < x1) (hxe : x1 ≤ x0 + (mx : Int) * wd) (hyl : ∀ k : Nat, k < my → y0 + (k : Int) * ht < y1) (hye : y1 ≤ y0 + (my : Int) * ht)
    (W : World) (hc₀ : c₀ ≤ W.heap.size) (bw : Box W Bw 3 #[.int .i64 wd]) (bh : Box W Bh 3 #[.int .i64 ht]) (br : Box W Br 23 #[.int .i64 x0, .int .i64 y0, .int .i64 x1, .int .i64 y1]) (hbr : Br < c₀) (hbo : Br ≠ Bo)
    (J : List R4 → World → Prop) (hJ : OwnFrom W.heap.size J)
    (hY : ∀ (m : Nat) pre x W1, J pre W1 → pre.length < my * mx → YieldAt Fence.wide m Try.prog l #[rectV x] W1 fun e W' => e = .returned (.bool true) ∧ J (pre ++ [x]) W' ∧ KpT c₀ Bo 23 64 W1 W' ∧ KeepsFrom W.heap.size W1 W')
    (h0 : J [] W) :
    CallsIn Fence.wide n Try.prog 80 #[.func (.yield l) #[] #[], .pointer (some ⟨Bw, 0, none⟩), .pointer (some ⟨Bh, 0, none⟩), .pointer (some ⟨Br, 0, none⟩)] W fun e W' =>
      (∃ v, e = .returned v) ∧ J (rowsOf x0 x1 y1 wd ht mx (startL y0 ht my)) W' := by
  have h1 : 1 ≤ n := by omega
  have cw := bw.cell
  have ch := bh.cell
  have cr := br.cell
  refine callsIn_of_wp_marks Try.func80 rfl trivial ?_ rfl
  simp only [Try.ntmps80, List.size_toArray, List.length_cons, List.length_nil, Nat.reduceAdd, Nat.reduceSub, Array.replicate_succ, Array.replicate_zero, List.push_toArray, List.append_toArray, List.nil_append, List.cons_append]
  have d1 : (wd < 1) = False := eq_false (by omega)
  have d2 : (ht < 1) = False := eq_false (by omega)
  gi_wp2_with (refine ⟨trivial, ?_⟩; gi_at_call 81; refine (starts_in (n - 1) _ _ _ _).mono ?_; rintro e w' ⟨rfl, rfl⟩)
  have k0 : Ext W ((((W.alloc (.cells #[.func (.yield l) #[] #[]] 52)).alloc (.cells #[.int .i64 y0] 3)).alloc (.cells #[.int .i64 y1] 3)).alloc (.cells #[.int .i64 ht] 3)) := (((Ext.alloc _ _).trans (Ext.alloc _ _)).trans (Ext.alloc _ _)).trans (Ext.alloc _ _)
  have k1 : Box ((((W.alloc (.cells #[.func (.yield l) #[] #[]] 52)).alloc (.cells #[.int .i64 y0] 3)).alloc (.cells #[.int .i64 y1] 3)).alloc (.cells #[.int .i64 ht] 3)) W.heap.size 52 #[.func (.yield l) #[] #[]] := (((Box.new _ _ _).alloc _).alloc _).alloc _
  have k2 : Box ((((W.alloc (.cells #[.func (.yield l) #[] #[]] 52)).alloc (.cells #[.int .i64 y0] 3)).alloc (.cells #[.int .i64 y1] 3)).alloc (.cells #[.int .i64 ht] 3)) (W.heap.size + 1) 3 #[.int .i64 y0] := (Box.at1.alloc _).alloc _
  have k3 : Box ((((W.alloc (.cells #[.func (.yield l) #[] #[]] 52)).alloc (.cells #[.int .i64 y0] 3)).alloc (.cells #[.int .i64 y1] 3)).alloc (.cells #[.int .i64 ht] 3)) (W.heap.size + 1 + 1) 3 #[.int .i64 y1] := Box.at2.alloc _
  have k4 : Box ((((W.alloc (.cells #[.func (.yield l) #[] #[]] 52)).alloc (.cells #[.int .i64 y0] 3)).alloc (.cells #[.int .i64 y1] 3)).alloc (.cells #[.int .i64 ht] 3)) (W.heap.size + 1 + 1 + 1) 3 #[.int .i64 ht] := Box.at3
  have k5 : J [] ((((W.alloc (.cells #[.func (.yield l) #[] #[]] 52)).alloc (.cells #[.int .i64 y0] 3)).alloc (.cells #[.int .i64 y1] 3)).alloc (.cells #[.int .i64 ht] 3)) := hJ.alloc _ (hJ.alloc _ (hJ.alloc _ (hJ.alloc _ h0)))
  have hsz : ((((W.alloc (.cells #[.func (.yield l) #[] #[]] 52)).alloc (.cells #[.int .i64 y0] 3)).alloc (.cells #[.int .i64 y1] 3)).alloc (.cells #[.int .i64 ht] 3)).heap.size = W.heap.size + 4 := by simp
  generalize (((W.alloc (.cells #[.func (.yield l) #[] #[]] 52)).alloc (.cells #[.int .i64 y0] 3)).alloc (.cells #[.int .i64 y1] 3)).alloc (.cells #[.int .i64 ht] 3) = W0 at *
  have bw0 := bw.ext k0
  have bh0 := bh.ext k0
  have br0 := br.ext k0
  have hJo : ∀ {β : Type} {B : Nat} (f : β → List R4), W.heap.size ≤ B → OwnFrom B (fun (s : β) X => J (f s) X) := fun f hB s A X row hs hg hr => hJ _ A X row hs hg (fun r e => ⟨Nat.le_trans hB (hr r e).1, (hr r e).2⟩)
  refine wpIn_rangeFunc_ownH (F := Fence.wide) rfl h1 (gf := 94) (lb := #[.pointer (some ⟨W.heap.size + 1, 0, none⟩), .pointer (some ⟨W.heap.size + 1 + 1, 0, none⟩), .pointer (some ⟨W.heap.size + 1 + 1 + 1, 0, none⟩)]) rfl trivial (enters_of Try.func94 (by kernel_rfl) rfl)
    (starts_stops (n - 1) _ _ _ y0 y1 ht my (by omega) (by omega) hh hh2 hyl hye (KpT c₀ Bo 23 64) KpT.refl (fun h k => h.trans k) (fun A B b v h hB => h.box hB (by decide) (by decide)) W0 k2 k3 k4) (fun h k => h.trans k)
    (fun X l' o o' hl' ho hc _ => KpT.putObj o' (by omega) ho hc) (Below.refl _ _) (fun _ => rfl)
    (fun pre X => J (rowsOf x0 x1 y1 wd ht mx (pre.map (·.1))) X ∧ KpT c₀ Bo 23 64 W0 X)
    (fun _ _ _ => False)
    (OwnFrom.and (hJo (fun pre : List I5 => rowsOf x0 x1 y1 wd ht mx (pre.map (·.1))) (by omega)) (ownFrom_KpT (by omega) (by omega)))
    (fun _ _ _ _ _ hs _ _ => hs)
    ⟨k5, KpT.refl _⟩
    (fun y a' X => ∃ By, Boxed X By 3 (.int .i64 y.1) ∧ a' = { tmps := #[.func (.yield l) #[] #[], .pointer (some ⟨Bw, 0, none⟩), .pointer (some ⟨Bh, 0, none⟩), .pointer (some ⟨Br, 0, none⟩), .pointer (some ⟨W.heap.size, 0, none⟩), .pointer (some ⟨By, 0, none⟩), undef, undef, .int .i64 wd, .bool false, .bool false, .int .i64 ht, .bool false, .bool false, .pointer (some ⟨Br, 1, none⟩), .int .i64 y0, .pointer (some ⟨Br, 3, none⟩), .int .i64 y1, .int .i64 ht, .func (.func 94) #[] #[.pointer (some ⟨W.heap.size + 1, 0, none⟩), .pointer (some ⟨W.heap.size + 1 + 1, 0, none⟩), .pointer (some ⟨W.heap.size + 1 + 1 + 1, 0, none⟩)], .int .i64 y.1, undef, undef, undef, undef, undef, undef, undef, undef, undef, undef, undef, undef, undef, undef, undef, undef, undef, undef, undef, undef, undef, undef, undef, undef, undef, undef, undef, undef, undef, undef], defers := [] })
    (fun y a' _ X Y row hs hg hr => by obtain ⟨By, e1, e2⟩ := hs; exact ⟨By, boxed_own By 3 (fun (_ : Unit) => Value.int .i64 y.1) () X Y row e1 hg (fun r e => (hr r e).2), e2⟩)
    ?assign ?body ?done ?stop
  case assign =>
    rintro l1 pre y X K ⟨hj, hkp⟩ hK
    have hs := hkp.size
    gi_wp2
    exact hK _ _ ((KeepsOthers.alloc _ _).from _) (KpT.alloc (by omega) _) ⟨hJ.alloc _ hj, hkp.trans (KpT.alloc (by omega) _)⟩ ⟨X.heap.size, Boxed.new X 3 _, rfl⟩
  case body =>
    rintro l1 pre y a' W1 hl1 ⟨r, hr⟩ ⟨hj, hkp⟩ ⟨By, bY, rfl⟩ hlt
    have hs1 := hkp.size
    have br1 := hkp.boxOld br0 hbr hbo
    have bw1 := hkp.box bw0 (by decide) (by decide)
    have cr1 := br1.cell
    have cw1 := bw1.cell
    have h1' : 1 ≤ n - 1 - 1 := by omega
    gi_wp2_with (refine ⟨trivial, ?_⟩; gi_at_call 81; refine (CallsIn.inRound l1 (starts_in (n - 1 - 1 - 1) _ _ _ _)).mono ?_; rintro e w' ⟨rfl, rfl⟩)
    have j0 : Ext W1 (((W1.alloc (.cells #[.int .i64 x0] 3)).alloc (.cells #[.int .i64 x1] 3)).alloc (.cells #[.int .i64 wd] 3)) := ((Ext.alloc _ _).trans (Ext.alloc _ _)).trans (Ext.alloc _ _)
    have j1 : Box (((W1.alloc (.cells #[.int .i64 x0] 3)).alloc (.cells #[.int .i64 x1] 3)).alloc (.cells #[.int .i64 wd] 3)) W1.heap.size 3 #[.int .i64 x0] := ((Box.new _ _ _).alloc _).alloc _
    have j2 : Box (((W1.alloc (.cells #[.int .i64 x0] 3)).alloc (.cells #[.int .i64 x1] 3)).alloc (.cells #[.int .i64 wd] 3)) (W1.heap.size + 1) 3 #[.int .i64 x1] := Box.at1.alloc _
    have j3 : Box (((W1.alloc (.cells #[.int .i64 x0] 3)).alloc (.cells #[.int .i64 x1] 3)).alloc (.cells #[.int .i64 wd] 3)) (W1.heap.size + 1 + 1) 3 #[.int .i64 wd] := Box.at2
    have j4 : KeepsFrom W0.heap.size W1 (((W1.alloc (.cells #[.int .i64 x0] 3)).alloc (.cells #[.int .i64 x1] 3)).alloc (.cells #[.int .i64 wd] 3)) := (((KeepsOthers.alloc _ _).trans (KeepsOthers.alloc _ _)).trans (KeepsOthers.alloc _ _)).from _
    have j5 : KpT c₀ Bo 23 64 W1 (((W1.alloc (.cells #[.int .i64 x0] 3)).alloc (.cells #[.int .i64 x1] 3)).alloc (.cells #[.int .i64 wd] 3)) := ((KpT.alloc (by omega) _).trans (KpT.alloc (by simp; omega) _)).trans (KpT.alloc (by simp; omega) _)
    have j6 : J (rowsOf x0 x1 y1 wd ht mx (pre.map (·.1))) (((W1.alloc (.cells #[.int .i64 x0] 3)).alloc (.cells #[.int .i64 x1] 3)).alloc (.cells #[.int .i64 wd] 3)) := hJ.alloc _ (hJ.alloc _ (hJ.alloc _ hj))
    have jsz : (((W1.alloc (.cells #[.int .i64 x0] 3)).alloc (.cells #[.int .i64 x1] 3)).alloc (.cells #[.int .i64 wd] 3)).heap.size = W1.heap.size + 3 := by simp
    have hr' : (((W1.alloc (.cells #[.int .i64 x0] 3)).alloc (.cells #[.int .i64 x1] 3)).alloc (.cells #[.int .i64 wd] 3)).heap[l1]? = some (.loop r) := j4.same _ _ hl1 hr rfl
    generalize ((W1.alloc (.cells #[.int .i64 x0] 3)).alloc (.cells #[.int .i64 x1] 3)).alloc (.cells #[.int .i64 wd] 3) = W2 at *
    refine wpIn_rangeFunc_ownN (F := Fence.wide.inRound l1) (l₀ := l1) (r₀ := r) rfl hr' h1' (gf := 94) (lb := #[.pointer (some ⟨W1.heap.size, 0, none⟩), .pointer (some ⟨W1.heap.size + 1, 0, none⟩), .pointer (some ⟨W1.heap.size + 1 + 1, 0, none⟩)]) rfl trivial (enters_of Try.func94 (by kernel_rfl) rfl)
      ((starts_stops (n - 1 - 1 - 1) _ _ _ x0 x1 wd mx (by omega) (by omega) hw hw2 hxl hxe (KpT c₀ Bo 23 64) KpT.refl (fun h k => h.trans k) (fun A B b v h hB => h.box hB (by decide) (by decide)) W2 j1 j2 j3).inRound l1) (fun h k => h.trans k)
      (fun X l' o o' hl' ho hc _ => KpT.putObj o' (by omega) ho hc) (Below.refl _ _) (fun _ => rfl)
      (fun pre' X => J (rowsOf x0 x1 y1 wd ht mx (pre.map (·.1)) ++ (pre'.map (·.1)).map (rectOf x1 y1 wd ht y.1)) X ∧ (KpT c₀ Bo 23 64 W1 X ∧ KeepsFrom W0.heap.size W1 X))
      (fun _ _ _ => False)
      (OwnFrom.and (hJo (fun pre' : List I5 => rowsOf x0 x1 y1 wd ht mx (pre.map (·.1)) ++ (pre'.map (·.1)).map (rectOf x1 y1 wd ht y.1)) (by omega)) (OwnFrom.and (ownFrom_KpT (by omega) (by omega)) (ownFrom_keepsFrom (by omega))))
      (fun _ _ _ _ _ hs _ _ => hs)
      ⟨by simpa using j6, j5, j4⟩
      (fun x a'' _ => a'' = { tmps := #[.func (.yield l) #[] #[], .pointer (some ⟨Bw, 0, none⟩), .pointer (some ⟨Bh, 0, none⟩), .pointer (some ⟨Br, 0, none⟩), .pointer (some ⟨W.heap.size, 0, none⟩), .pointer (some ⟨By, 0, none⟩), .int .i64 x.1, undef, .int .i64 wd, .bool false, .bool false, .int .i64 ht, .bool false, .bool false, .pointer (some ⟨Br, 1, none⟩), .int .i64 y0, .pointer (some ⟨Br, 3, none⟩), .int .i64 y1, .int .i64 ht, .func (.func 94) #[] #[.pointer (some ⟨W.heap.size + 1, 0, none⟩), .pointer (some ⟨W.heap.size + 1 + 1, 0, none⟩), .pointer (some ⟨W.heap.size + 1 + 1 + 1, 0, none⟩)], .int .i64 y.1, .pointer (some ⟨Br, 0, none⟩), .int .i64 x0, .pointer (some ⟨Br, 2, none⟩), .int .i64 x1, .int .i64 wd, .func (.func 94) #[] #[.pointer (some ⟨W1.heap.size, 0, none⟩), .pointer (some ⟨W1.heap.size + 1, 0, none⟩), .pointer (some ⟨W1.heap.size + 1 + 1, 0, none⟩)], .int .i64 x.1, undef, undef, undef, undef, undef, undef, undef, undef, undef, undef, undef, undef, undef, undef, undef, undef, undef, undef, undef, undef, undef, undef, undef], defers := [] })
      (fun _ _ _ _ _ _ hs _ _ => hs)
      ?assign2 ?body2 ?done2 ?stop2
    case assign2 =>
      rintro l2 pre' x X K hi hK
      gi_wp2
      exact hK _ _ (KeepsFrom.refl _ _) (KpT.refl _) hi rfl
    case body2 =>
      rintro l2 pre' x a'' W3 _ _ ⟨hj3, hkp3, hkf3⟩ rfl hlt2
      have hs3 := hkp3.size
      have br3 := (hkp.trans hkp3).boxOld br0 hbr hbo
      have bw3 := (hkp.trans hkp3).box bw0 (by decide) (by decide)
      have bh3 := (hkp.trans hkp3).box bh0 (by decide) (by decide)
      have by3 := (hkp.trans hkp3).box k1 (by decide) (by decide)
      have bY3 : Box W3 By 3 #[.int .i64 y.1] := hkp3.box bY (by decide) (by decide)
      have cr3 := br3.cell; have cw3 := bw3.cell; have ch3 := bh3.cell; have cy3 := by3.cell; have cY3 := bY3.cell
      obtain ⟨x, hx⟩ := x
      obtain ⟨y, hy⟩ := y
      simp only at cY3 hj3
      have w1 : IntKind.i64.wrap (x1 - x) = x1 - x := IntWalk.i64_in _ (by omega)
      have w2 : IntKind.i64.wrap (y1 - y) = y1 - y := IntWalk.i64_in _ (by omega)
      have hlen : (rowsOf x0 x1 y1 wd ht mx (pre.map (·.1)) ++ (pre'.map (·.1)).map (rectOf x1 y1 wd ht y)).length < my * mx := by
        rw [List.length_append, rowsOf_length, List.length_map, List.length_map, List.length_map]
        exact cell_lt hlt hlt2
      by_cases cx : x1 - x < wd <;> by_cases cy : y1 - y < ht
      · have c1 : (x1 - x < wd) = True := eq_true (by omega)
        have c2 : (y1 - y < ht) = True := eq_true (by omega)
        have w3 : IntKind.i64.wrap (x + (x1 - x)) = x + (x1 - x) := IntWalk.i64_in _ (by omega)
        have w4 : IntKind.i64.wrap (y + (y1 - y)) = y + (y1 - y) := IntWalk.i64_in _ (by omega)
        have er : rectOf x1 y1 wd ht y x = (x, y, x + (x1 - x), y + (y1 - y)) := by unfold rectOf; rw [show min wd (x1 - x) = x1 - x by omega, show min ht (y1 - y) = y1 - y by omega]
        obtain ⟨fn, tmps, assign, body, hyy, hR⟩ := hY (n - 1 - 1 - 1 - 1 - 1) _ (rectOf x1 y1 wd ht y x) (W3.alloc (.cells #[.int .i64 x, .int .i64 y, .int .i64 (x + (x1 - x)), .int .i64 (y + (y1 - y))] 23)) (hJ.alloc _ hj3) hlen
        have HER := Lib.hid er
        rw [er] at hyy
        dsimp only [rectV] at hyy
        clear er
        gi_wp2
        refine ⟨fun h => (by simp [Fence.wide, Fence.inRound] at h), ?_⟩
        refine hR.mono ?_
        rintro e W5 ⟨rfl, hj5, hk5, hkf5⟩
        clear hyy
        gi_wp2
        refine ⟨?_, (KpT.alloc (by omega) _).trans hk5, ?_, hkp3.trans ((KpT.alloc (by omega) _).trans hk5), by rw [← hsz]; exact hkf3.trans (((KeepsOthers.alloc _ _).from _).trans (hkf5.mono (by omega)))⟩
        · exact ((KeepsOthers.alloc _ _).from _).trans (hkf5.mono (by omega))
        · show J (rowsOf x0 x1 y1 wd ht mx (pre.map fun z : I5 => z.1) ++ ((pre' ++ [(⟨x, hx⟩ : I5)]).map fun z : I5 => z.1).map (rectOf x1 y1 wd ht y)) W5
          rw [List.map_append, List.map_append, ← List.append_assoc]
          exact hj5
      · have c1 : (x1 - x < wd) = True := eq_true (by omega)
        have c2 : (y1 - y < ht) = False := eq_false (by omega)
        have w3 : IntKind.i64.wrap (x + (x1 - x)) = x + (x1 - x) := IntWalk.i64_in _ (by omega)
        have w4 : IntKind.i64.wrap (y + (ht)) = y + (ht) := IntWalk.i64_in _ (by omega)
        have er : rectOf x1 y1 wd ht y x = (x, y, x + (x1 - x), y + (ht)) := by unfold rectOf; rw [show min wd (x1 - x) = x1 - x by omega, show min ht (y1 - y) = ht by omega]
        obtain ⟨fn, tmps, assign, body, hyy, hR⟩ := hY (n - 1 - 1 - 1 - 1 - 1) _ (rectOf x1 y1 wd ht y x) (W3.alloc (.cells #[.int .i64 x, .int .i64 y, .int .i64 (x + (x1 - x)), .int .i64 (y + (ht))] 23)) (hJ.alloc _ hj3) hlen
        have HER := Lib.hid er
        rw [er] at hyy
        dsimp only [rectV] at hyy
        clear er
        gi_wp2
        refine ⟨fun h => (by simp [Fence.wide, Fence.inRound] at h), ?_⟩
        refine hR.mono ?_
        rintro e W5 ⟨rfl, hj5, hk5, hkf5⟩
        clear hyy
        gi_wp2
        refine ⟨?_, (KpT.alloc (by omega) _).trans hk5, ?_, hkp3.trans ((KpT.alloc (by omega) _).trans hk5), by rw [← hsz]; exact hkf3.trans (((KeepsOthers.alloc _ _).from _).trans (hkf5.mono (by omega)))⟩
        · exact ((KeepsOthers.alloc _ _).from _).trans (hkf5.mono (by omega))
        · show J (rowsOf x0 x1 y1 wd ht mx (pre.map fun z : I5 => z.1) ++ ((pre' ++ [(⟨x, hx⟩ : I5)]).map fun z : I5 => z.1).map (rectOf x1 y1 wd ht y)) W5
          rw [List.map_append, List.map_append, ← List.append_assoc]
          exact hj5
      · have c1 : (x1 - x < wd) = False := eq_false (by omega)
        have c2 : (y1 - y < ht) = True := eq_true (by omega)
        have w3 : IntKind.i64.wrap (x + (wd)) = x + (wd) := IntWalk.i64_in _ (by omega)
        have w4 : IntKind.i64.wrap (y + (y1 - y)) = y + (y1 - y) := IntWalk.i64_in _ (by omega)
        have er : rectOf x1 y1 wd ht y x = (x, y, x + (wd), y + (y1 - y)) := by unfold rectOf; rw [show min wd (x1 - x) = wd by omega, show min ht (y1 - y) = y1 - y by omega]
        obtain ⟨fn, tmps, assign, body, hyy, hR⟩ := hY (n - 1 - 1 - 1 - 1 - 1) _ (rectOf x1 y1 wd ht y x) (W3.alloc (.cells #[.int .i64 x, .int .i64 y, .int .i64 (x + (wd)), .int .i64 (y + (y1 - y))] 23)) (hJ.alloc _ hj3) hlen
        have HER := Lib.hid er
        rw [er] at hyy
        dsimp only [rectV] at hyy
        clear er
        gi_wp2
        refine ⟨fun h => (by simp [Fence.wide, Fence.inRound] at h), ?_⟩
        refine hR.mono ?_
        rintro e W5 ⟨rfl, hj5, hk5, hkf5⟩
        clear hyy
        gi_wp2
        refine ⟨?_, (KpT.alloc (by omega) _).trans hk5, ?_, hkp3.trans ((KpT.alloc (by omega) _).trans hk5), by rw [← hsz]; exact hkf3.trans (((KeepsOthers.alloc _ _).from _).trans (hkf5.mono (by omega)))⟩
        · exact ((KeepsOthers.alloc _ _).from _).trans (hkf5.mono (by omega))
        · show J (rowsOf x0 x1 y1 wd ht mx (pre.map fun z : I5 => z.1) ++ ((pre' ++ [(⟨x, hx⟩ : I5)]).map fun z : I5 => z.1).map (rectOf x1 y1 wd ht y)) W5
          rw [List.map_append, List.map_append, ← List.append_assoc]
          exact hj5
      · have c1 : (x1 - x < wd) = False := eq_false (by omega)
        have c2 : (y1 - y < ht) = False := eq_false (by omega)
        have w3 : IntKind.i64.wrap (x + (wd)) = x + (wd) := IntWalk.i64_in _ (by omega)
        have w4 : IntKind.i64.wrap (y + (ht)) = y + (ht) := IntWalk.i64_in _ (by omega)
        have er : rectOf x1 y1 wd ht y x = (x, y, x + (wd), y + (ht)) := by unfold rectOf; rw [show min wd (x1 - x) = wd by omega, show min ht (y1 - y) = ht by omega]
        obtain ⟨fn, tmps, assign, body, hyy, hR⟩ := hY (n - 1 - 1 - 1 - 1 - 1) _ (rectOf x1 y1 wd ht y x) (W3.alloc (.cells #[.int .i64 x, .int .i64 y, .int .i64 (x + (wd)), .int .i64 (y + (ht))] 23)) (hJ.alloc _ hj3) hlen
        have HER := Lib.hid er
        rw [er] at hyy
        dsimp only [rectV] at hyy
        clear er
        gi_wp2
        refine ⟨fun h => (by simp [Fence.wide, Fence.inRound] at h), ?_⟩
        refine hR.mono ?_
        rintro e W5 ⟨rfl, hj5, hk5, hkf5⟩
        clear hyy
        gi_wp2
        refine ⟨?_, (KpT.alloc (by omega) _).trans hk5, ?_, hkp3.trans ((KpT.alloc (by omega) _).trans hk5), by rw [← hsz]; exact hkf3.trans (((KeepsOthers.alloc _ _).from _).trans (hkf5.mono (by omega)))⟩
        · exact ((KeepsOthers.alloc _ _).from _).trans (hkf5.mono (by omega))
        · show J (rowsOf x0 x1 y1 wd ht mx (pre.map fun z : I5 => z.1) ++ ((pre' ++ [(⟨x, hx⟩ : I5)]).map fun z : I5 => z.1).map (rectOf x1 y1 wd ht y)) W5
          rw [List.map_append, List.map_append, ← List.append_assoc]
          exact hj5
    case done2 =>
      rintro xs' W3 hS ⟨hj3, hkp3, hkf3⟩
      gi_wp2
      refine ⟨by rw [← hsz]; exact hkf3, hkp3, ?_, hkp.trans hkp3⟩
      have e : rowsOf x0 x1 y1 wd ht mx ((pre ++ [y]).map (·.1)) = rowsOf x0 x1 y1 wd ht mx (pre.map (·.1)) ++ (startL x0 wd mx).map (rectOf x1 y1 wd ht y.1) := by
        unfold rowsOf
        rw [List.map_append, List.flatMap_append]
        simp
      show J (rowsOf x0 x1 y1 wd ht mx ((pre ++ [y]).map (·.1))) W3
      rw [e, ← hS]
      exact hj3
    case stop2 =>
      rintro c pre' X _ h
      exact h.elim
  case done =>
    rintro D xs X hD hS ⟨hj, hkp⟩ hK
    gi_wp2
    refine ⟨by simp, .inl ⟨_, _, rfl, run_takeDeferred hK, ?_⟩⟩
    exact ⟨_, results_none rfl _ _ _, ⟨⟨_, rfl⟩, by rw [← hS]; exact hJ.putObj _ hj (by omega) hK rfl⟩⟩
  case stop =>
    rintro D c pre X _ _ h
    exact h.elim
end Go.Proofs.Ytefdheoalonbaaa
