/- Texts put together: Math, Vec, Slice, Valid, Area, Wind, Wind2, Fills. -/
import Derived.Test.YtodefmfgoehkhaaGreatRows
import Derived.Test.YtodefmfgoehkhaaGreatZA
import Derived.MapKept
/- Points as pairs of numbers: the plain functions that the vector layer computes. No program stands here. -/
set_option linter.unusedVariables false
set_option linter.unusedSimpArgs false
namespace Go.Proofs.YtodefmfgoehkhaaGreat
abbrev P2 := Int × Int
def clampS (n lo hi : Int) : Int := if n < lo then lo else if hi < n then hi else n
def heldS (n : Int) : Int := clampS n (-1048576) 1048576
def holdS (p : P2) : P2 := (heldS p.1, heldS p.2)
/-- a coordinate in bounds -/
def inB (n : Int) : Bool := decide (-1048576 ≤ n) && decide (n ≤ 1048576)
def validS (p : P2) : Bool := inB p.1 && inB p.2
def crossS (p q : P2) : Int := p.1 * q.2 - p.2 * q.1
def subS (p q : P2) : P2 := (heldS p.1 - heldS q.1, heldS p.2 - heldS q.2)
def addS (p q : P2) : P2 := (heldS p.1 + heldS q.1, heldS p.2 + heldS q.2)
def orientS (a b p : P2) : Int := clampS (crossS (subS b a) (subS p a)) (-1) 1
def lessS (p q : P2) : Bool := decide (heldS p.2 < heldS q.2) || (heldS p.2 == heldS q.2 && decide (heldS p.1 < heldS q.1))
theorem clampS_lo (n : Int) {lo hi : Int} (h : lo ≤ hi) : lo ≤ clampS n lo hi := by unfold clampS; split <;> (try split) <;> omega
theorem clampS_hi (n : Int) {lo hi : Int} (h : lo ≤ hi) : clampS n lo hi ≤ hi := by unfold clampS; split <;> (try split) <;> omega
theorem heldS_lo (n : Int) : -1048576 ≤ heldS n := clampS_lo n (by decide)
theorem heldS_hi (n : Int) : heldS n ≤ 1048576 := clampS_hi n (by decide)
theorem heldS_eq {n : Int} (h : inB n = true) : heldS n = n := by
  simp only [inB, Bool.and_eq_true, decide_eq_true_eq] at h
  unfold heldS clampS
  rw [if_neg (by omega), if_neg (by omega)]
theorem heldS_iff (n : Int) : heldS n = n ↔ inB n = true := by
  constructor
  · intro h
    have h1 := heldS_lo n
    have h2 := heldS_hi n
    simp only [inB, Bool.and_eq_true, decide_eq_true_eq]
    omega
  · exact heldS_eq
theorem holdS_iff (p : P2) : holdS p = p ↔ validS p = true := by
  obtain ⟨x, y⟩ := p
  simp only [holdS, Prod.mk.injEq, heldS_iff, validS, Bool.and_eq_true]
def sgnS (n : Int) : Int := if n < 0 then -1 else if 0 < n then 1 else 0
theorem clamp_sgn (n : Int) : clampS n (-1) 1 = sgnS n := by
  unfold clampS sgnS
  split <;> split <;> (try split) <;> (try split) <;> omega
theorem orientS_sgn (a b p : P2) : orientS a b p = sgnS (crossS (subS b a) (subS p a)) := clamp_sgn _
theorem mul_bd {x y a b : Int} (ha : 0 ≤ a) (hb : 0 ≤ b) (h1 : -a ≤ x) (h2 : x ≤ a) (h3 : -b ≤ y) (h4 : y ≤ b) : -(a * b) ≤ x * y ∧ x * y ≤ a * b := by
  have e1 := Int.mul_nonneg (show 0 ≤ a + x by omega) (show 0 ≤ b + y by omega)
  have e2 := Int.mul_nonneg (show 0 ≤ a - x by omega) (show 0 ≤ b - y by omega)
  have e3 := Int.mul_nonneg (show 0 ≤ a + x by omega) (show 0 ≤ b - y by omega)
  have e4 := Int.mul_nonneg (show 0 ≤ a - x by omega) (show 0 ≤ b + y by omega)
  simp only [Int.add_mul, Int.sub_mul, Int.mul_add, Int.mul_sub] at e1 e2 e3 e4
  omega
end Go.Proofs.YtodefmfgoehkhaaGreat

/- The contracts of the vector layer: clamping, sums, products, orientation, order, in the program and in the reference. -/
set_option linter.unusedVariables false
set_option linter.unusedSimpArgs false
namespace Go.Proofs.YtodefmfgoehkhaaGreat
open Go.RowKit Go.Par


set_option maxHeartbeats 400000 in
theorem clamp_any (n lo hi : Int) (w : World) :
    Calls Tryz.prog 109 #[.int .i64 n, .int .i64 lo, .int .i64 hi] w fun e w' => e = .returned (.int .i64 (clampS n lo hi)) ∧ w = w' := by
  unfold clampS
  go_enter Tryz.func109, Tryz.ntmps109
  go_wp2
  all_goals (go_ret; simp [*]; try omega)
theorem held_any (n : Int) (w : World) :
    Calls Tryz.prog 77 #[.int .i64 n] w fun e w' => e = .returned (.int .i64 (heldS n)) ∧ w = w' := by
  go_enter Tryz.func77, Tryz.ntmps77
  go_wp2_with (go_at_call 109; refine (clamp_any _ _ _ _).mono ?_; rintro e w' ⟨rfl, rfl⟩)
  go_ret
  exact ⟨rfl, rfl⟩

set_option maxHeartbeats 400000 in
theorem hold_any (x y : Int) (w : World) :
    Calls Tryz.prog 53 #[.agg #[.int .i64 x, .int .i64 y]] w fun e w' => e = .returned (.agg #[.int .i64 (heldS x), .int .i64 (heldS y)]) ∧ Ext w w' := by
  go_enter Tryz.func53, Tryz.ntmps53
  go_wp2_with fail
  apply wp_region_par' 9 (by kernel_rfl) (by kernel_rfl) rfl
  simp only [List.take_succ_cons, List.take_zero, List.drop_succ_cons, List.drop_zero]
  iterate 9
    refine parW_step rfl (fun K hK => ?_)
    apply Exists.intro
    refine ⟨fun z => ?_, ?_⟩
    focus
      go_simp
      first
        | rfl
        | exact calls_same (held_any _ _)
    go_simp
    refine hK _ ?_
    clear hK K
  refine parW_end (fun z => ?_)
  go_wp2
  exact bodyPost_ret (v := .agg #[.int .i64 (heldS x), .int .i64 (heldS y)]) (by simp [results, Tryz.results53, go_sem, heldS]) rfl ⟨rfl, ((((Ext.alloc _ _).trans (Ext.alloc _ _)).trans (Ext.drew _)).later z |>.setNew (by simp) _ _).setNew (by simp) _ _⟩
set_option maxHeartbeats 400000 in
theorem valid_any (x y : Int) (w : World) :
    Calls Tryz.prog 28 #[.agg #[.int .i64 x, .int .i64 y]] w fun e w' => e = .returned (.bool (validS (x, y))) ∧ Ext w w' := by
  go_enter Tryz.func28, Tryz.ntmps28
  go_wp2_with fail
  apply wp_region_par' 5 (by kernel_rfl) (by kernel_rfl) rfl
  simp only [List.take_succ_cons, List.take_zero, List.drop_succ_cons, List.drop_zero]
  iterate 5
    refine parW_step rfl (fun K hK => ?_)
    apply Exists.intro
    refine ⟨fun z => ?_, ?_⟩
    focus
      go_simp
      first
        | rfl
        | exact calls_val (hold_any _ _ _)
    go_simp
    refine hK _ ?_
    clear hK K
  refine parW_end (fun z => ?_)
  go_wp2
  go_ret
  refine ⟨ret_eq ?_, ((Ext.alloc _ _).trans (Ext.drew _)).later z⟩
  show Value.bool _ = Value.bool _
  rw [show validS (x, y) = (decide (heldS x = x) && decide (heldS y = y)) from by
    rw [Bool.eq_iff_iff, ← holdS_iff]; simp [holdS]]
/-- two vectors whose product fits -/
def Fits (x y u v : Int) : Prop := -2097152 ≤ x ∧ x ≤ 2097152 ∧ -2097152 ≤ y ∧ y ≤ 2097152 ∧ -2097152 ≤ u ∧ u ≤ 2097152 ∧ -2097152 ≤ v ∧ v ≤ 2097152
set_option maxHeartbeats 400000 in
theorem Add_any (x y u v : Int) (w : World) :
    Calls Tryz.prog 115 #[.agg #[.int .i64 x, .int .i64 y], .agg #[.int .i64 u, .int .i64 v]] w fun e w' => e = .returned (.agg #[.int .i64 (heldS x + heldS u), .int .i64 (heldS y + heldS v)]) ∧ Ext w w' := by
  have := heldS_lo x; have := heldS_lo y; have := heldS_lo u; have := heldS_lo v
  have := heldS_hi x; have := heldS_hi y; have := heldS_hi u; have := heldS_hi v
  go_enter Tryz.func115, Tryz.ntmps115
  go_wp2_with fail
  apply wp_region_par' 4 (by kernel_rfl) (by kernel_rfl) rfl
  simp only [List.take_succ_cons, List.take_zero, List.drop_succ_cons, List.drop_zero]
  generalize hW : World.drew _ = W
  have hE : Ext w W := by rw [← hW]; exact ((Ext.alloc _ _).trans (Ext.alloc _ _)).trans ((Ext.alloc _ _).trans (Ext.drew _))
  have b2 : Box W w.heap.size 49 #[.int .i64 x, .int .i64 y] := by rw [← hW]; exact (((Box.new _ _ _).alloc _).alloc _).drew
  have b3 : Box W (w.heap.size + 1) 49 #[.int .i64 u, .int .i64 v] := by rw [← hW]; exact ((Box.newAt (by simp)).alloc _).drew
  have b4 : Box W (w.heap.size + 2) 49 #[.int .i64 0, .int .i64 0] := by rw [← hW]; exact (Box.newAt (by simp)).drew
  clear hW
  have c2 := b2.lcell; have c3 := b3.lcell; have c4 := b4.lcell
  have f2 := b2.lfrozen; have f3 := b3.lfrozen; have f4 := b4.lfrozen
  iterate 4
    refine parW_step rfl (fun K hK => ?_)
    apply Exists.intro
    refine ⟨fun z => ?_, ?_⟩
    focus
      go_simp
      first
        | rfl
        | exact calls_val (hold_any _ _ _)
    go_simp
    refine hK _ ?_
    clear hK K
  refine parW_end (fun z => ?_)
  go_wp2
  exact bodyPost_ret (v := .agg #[.int .i64 (heldS x + heldS u), .int .i64 (heldS y + heldS v)]) (by simp [results, Tryz.results115, go_sem, c4]) rfl ⟨rfl, ((((((hE.later z).setNew (by omega) _ _).setNew (by omega) _ _).setNew (by omega) _ _).setNew (by omega) _ _).setNew (by omega) _ _).setNew (by omega) _ _⟩
set_option maxHeartbeats 400000 in
theorem Sub_any (x y u v : Int) (w : World) :
    Calls Tryz.prog 103 #[.agg #[.int .i64 x, .int .i64 y], .agg #[.int .i64 u, .int .i64 v]] w fun e w' => e = .returned (.agg #[.int .i64 (heldS x - heldS u), .int .i64 (heldS y - heldS v)]) ∧ Ext w w' := by
  have := heldS_lo x; have := heldS_lo y; have := heldS_lo u; have := heldS_lo v
  have := heldS_hi x; have := heldS_hi y; have := heldS_hi u; have := heldS_hi v
  go_enter Tryz.func103, Tryz.ntmps103
  go_wp2_with fail
  apply wp_region_par' 4 (by kernel_rfl) (by kernel_rfl) rfl
  simp only [List.take_succ_cons, List.take_zero, List.drop_succ_cons, List.drop_zero]
  generalize hW : World.drew _ = W
  have hE : Ext w W := by rw [← hW]; exact ((Ext.alloc _ _).trans (Ext.alloc _ _)).trans ((Ext.alloc _ _).trans (Ext.drew _))
  have b2 : Box W w.heap.size 49 #[.int .i64 x, .int .i64 y] := by rw [← hW]; exact (((Box.new _ _ _).alloc _).alloc _).drew
  have b3 : Box W (w.heap.size + 1) 49 #[.int .i64 u, .int .i64 v] := by rw [← hW]; exact ((Box.newAt (by simp)).alloc _).drew
  have b4 : Box W (w.heap.size + 2) 49 #[.int .i64 0, .int .i64 0] := by rw [← hW]; exact (Box.newAt (by simp)).drew
  clear hW
  have c2 := b2.lcell; have c3 := b3.lcell; have c4 := b4.lcell
  have f2 := b2.lfrozen; have f3 := b3.lfrozen; have f4 := b4.lfrozen
  iterate 4
    refine parW_step rfl (fun K hK => ?_)
    apply Exists.intro
    refine ⟨fun z => ?_, ?_⟩
    focus
      go_simp
      first
        | rfl
        | exact calls_val (hold_any _ _ _)
    go_simp
    refine hK _ ?_
    clear hK K
  refine parW_end (fun z => ?_)
  go_wp2
  exact bodyPost_ret (v := .agg #[.int .i64 (heldS x - heldS u), .int .i64 (heldS y - heldS v)]) (by simp [results, Tryz.results103, go_sem, c4]) rfl ⟨rfl, ((((((hE.later z).setNew (by omega) _ _).setNew (by omega) _ _).setNew (by omega) _ _).setNew (by omega) _ _).setNew (by omega) _ _).setNew (by omega) _ _⟩
set_option maxHeartbeats 400000 in
theorem Less_any (x y u v : Int) (w : World) :
    Calls Tryz.prog 117 #[.agg #[.int .i64 x, .int .i64 y], .agg #[.int .i64 u, .int .i64 v]] w fun e w' => e = .returned (.bool (lessS (x, y) (u, v))) ∧ Ext w w' := by
  go_enter Tryz.func117, Tryz.ntmps117
  go_wp2_with fail
  apply wp_region_par' 4 (by kernel_rfl) (by kernel_rfl) rfl
  simp only [List.take_succ_cons, List.take_zero, List.drop_succ_cons, List.drop_zero]
  generalize hW : World.drew _ = W
  have hE : Ext w W := by rw [← hW]; exact ((Ext.alloc _ _).trans (Ext.alloc _ _)).trans (Ext.drew _)
  have b2 : Box W w.heap.size 49 #[.int .i64 x, .int .i64 y] := by rw [← hW]; exact ((Box.new _ _ _).alloc _).drew
  have b3 : Box W (w.heap.size + 1) 49 #[.int .i64 u, .int .i64 v] := by rw [← hW]; exact (Box.newAt (by simp)).drew
  clear hW
  have c2 := b2.lcell; have c3 := b3.lcell
  have f2 := b2.lfrozen; have f3 := b3.lfrozen
  iterate 4
    refine parW_step rfl (fun K hK => ?_)
    apply Exists.intro
    refine ⟨fun z => ?_, ?_⟩
    focus
      go_simp
      first
        | rfl
        | exact calls_val (hold_any _ _ _)
    go_simp
    refine hK _ ?_
    clear hK K
  refine parW_end (fun z => ?_)
  go_wp2
  all_goals
    go_ret
    exact ⟨ret_eq (by simp [lessS, *]), ((((hE.later z).setNew (by omega) _ _).setNew (by omega) _ _).setNew (by omega) _ _).setNew (by omega) _ _⟩
end Go.Proofs.YtodefmfgoehkhaaGreat
/- Slices of points that read as lists. -/
set_option linter.unusedVariables false
set_option linter.unusedSimpArgs false
namespace Go.Proofs.YtodefmfgoehkhaaGreat
open Go.RowKit Go.Par

/-- the cells from the address on hold the points -/
def PtsAt (w : World) (A : Option Addr) (l : List P2) : Prop :=
  l ≠ [] → ∃ b o, A = some ⟨b, o, none⟩ ∧ ∀ i p, l[i]? = some p → w.cell? ⟨b, o + i * 2, none⟩ = some (.int .i64 p.1) ∧ w.cell? ⟨b, o + i * 2 + 1, none⟩ = some (.int .i64 p.2)
theorem PtsAt.ext {w w' : World} {A : Option Addr} {l : List P2} (h : PtsAt w A l) (he : Ext w w') : PtsAt w' A l := fun hl => by
  obtain ⟨b, o, e, hc⟩ := h hl
  exact ⟨b, o, e, fun i p hp => ⟨he.cell (hc i p hp).1, he.cell (hc i p hp).2⟩⟩
theorem PtsAt.nil (w : World) (A : Option Addr) : PtsAt w A [] := fun h => absurd rfl h
/-- a slice value that reads as a list of points -/
def Pts (w : World) (v : Value) (l : List P2) : Prop := ∃ A c, v = .slice A l.length c ∧ l.length ≤ c ∧ l.length ≤ 17592186044416 ∧ PtsAt w A l
theorem Pts.ext {w w' : World} {v : Value} {l : List P2} (h : Pts w v l) (he : Ext w w') : Pts w' v l := by
  obtain ⟨A, c, e, h1, h2, h3⟩ := h
  exact ⟨A, c, e, h1, h2, h3.ext he⟩
theorem Pts.stable (l : List P2) : Stable (fun v w => Pts w v l) := fun _ _ _ h he => h.ext he

def firstIdx (p : P2 → Bool) (l : List P2) : Int := match l.findIdx? p with | some i => i | none => -1

theorem firstIdx_some {p : P2 → Bool} {l : List P2} {k : Nat} {q : P2} (hk : l[k]? = some q) (hp : p q = true) (hno : ∀ j, j < k → ∀ q, l[j]? = some q → p q = false) : firstIdx p l = k := by
  unfold firstIdx
  have hlt := (List.getElem?_eq_some_iff.1 hk).1
  have : l.findIdx? p = some k := List.findIdx?_eq_some_iff_getElem.2 ⟨hlt, by rw [(List.getElem?_eq_some_iff.1 hk).2]; exact hp, fun j hj => by
    have := hno j hj _ (List.getElem?_eq_getElem (by omega)); simp [this]⟩
  rw [this]
theorem firstIdx_none {p : P2 → Bool} {l : List P2} (hno : ∀ (j : Nat) (q : P2), l[j]? = some q → p q = false) : firstIdx p l = -1 := by
  unfold firstIdx
  have : l.findIdx? p = none := List.findIdx?_eq_none_iff.2 fun x hx => by
    obtain ⟨j, hj⟩ := List.mem_iff_getElem?.1 hx
    exact hno j x hj
  rw [this]

set_option maxRecDepth 100000 in
set_option maxHeartbeats 400000 in
theorem indexFunc_any (f : FuncId) (cap : Array Value) (p : P2 → Bool) (l : List P2) (A : Option Addr) (c : Nat) (w : World) (hc : l.length ≤ 9223372036854775807) (hl : PtsAt w A l)
    (hcall : ∀ args w, (callFunc f args).run Tryz.prog w = .ok (.enter f args) w)
    (hf : ∀ x y w1, Ext w w1 → (x, y) ∈ l → Calls Tryz.prog f (#[.agg #[.int .i64 x, .int .i64 y]] ++ cap) w1 fun e w' => e = .returned (.bool (p (x, y))) ∧ Ext w1 w') :
    Calls Tryz.prog 76 #[.slice A l.length c, .func (.func f) #[] cap] w fun e w' => e = .returned (.int .i64 (firstIdx p l)) ∧ Ext w w' := by
  obtain ⟨n, hn⟩ : ∃ n, n = l.length := ⟨_, rfl⟩
  rw [← hn]
  have HN := Lib.hid hn
  rw [← hn] at hc
  clear hn
  have HF := Lib.hid hf
  clear hf
  go_enter Tryz.func76, Tryz.ntmps76
  go_wp2_with fail
  go_loopw [5, 8] (fun _ i wr => ∃ k : Nat, k ≤ n ∧ i = .int .i64 k ∧ Ext w wr ∧ ∀ j, j < k → ∀ q, l[j]? = some q → p q = false) (fun _ i _ => n - (intOf i).toNat)
  case atStart => exact ⟨0, Nat.zero_le _, rfl, Ext.refl _, fun j hj => by omega⟩
  case round =>
    obtain ⟨k, hk, rfl, hE, hno⟩ := hrel
    have Hno := Lib.hid hno
    clear hno
    by_cases hlt : k < n
    · obtain ⟨⟨x, y⟩, hlk⟩ : ∃ q, l[k]? = some q := ⟨_, List.getElem?_eq_getElem (by rw [← HN.out]; exact hlt)⟩
      obtain ⟨b, o, rfl, hcell⟩ := hl (fun e => by rw [e] at hlk; simp at hlk)
      have c0 := hE.cell (hcell k _ hlk).1
      have c1 := hE.cell (hcell k _ hlk).2
      have HL := Lib.hid hlk
      clear hlk hcell
      go_wp2_with fail
      refine (HF.out x y _ hE (List.mem_of_getElem? HL.out)).mono ?_
      rintro e w1 ⟨rfl, hE1⟩
      have hE2 := hE.trans hE1
      cases hp : p (x, y)
      · go_wp2
        go_roundw
        case rel =>
          refine ⟨k + 1, by omega, by go_num, hE2, fun j hj q hq => ?_⟩
          by_cases hjk : j = k
          · subst hjk; rw [HL.out] at hq; injection hq with hq; rw [← hq, hp]
          · exact Hno.out j (by omega) q hq
        case measure => simp [intOf]; omega
      · go_wp2
        go_ret
        exact ⟨ret_eq (by rw [firstIdx_some HL.out hp Hno.out]; rfl), hE2⟩
    · go_wp2
      go_ret
      have e : firstIdx p l = -1 := firstIdx_none fun j q hq => Hno.out j (by have := (List.getElem?_eq_some_iff.1 hq).1; rw [← HN.out] at this; omega) q hq
      exact ⟨ret_eq (by rw [e]; rfl), hE⟩
theorem firstIdx_ge (p : P2 → Bool) (l : List P2) : (0 ≤ firstIdx p l) = (l.any p = true) := by
  unfold firstIdx
  cases h : l.findIdx? p with
  | none =>
    simp only [List.findIdx?_eq_none_iff] at h
    simp only [List.any_eq_true, eq_iff_iff]
    exact ⟨fun h0 => absurd h0 (by decide), fun ⟨x, hx, hp⟩ => by rw [h x hx] at hp; cases hp⟩
  | some i =>
    have := List.findIdx?_eq_some_iff_getElem.1 h
    obtain ⟨hi, hp, _⟩ := this
    simp only [List.any_eq_true, eq_iff_iff]
    exact ⟨fun _ => ⟨_, List.getElem_mem hi, hp⟩, fun _ => Int.natCast_nonneg _⟩
theorem containsFunc_any (f : FuncId) (cap : Array Value) (p : P2 → Bool) (l : List P2) (A : Option Addr) (c : Nat) (w : World) (hc : l.length ≤ 9223372036854775807) (hl : PtsAt w A l)
    (hcall : ∀ args w, (callFunc f args).run Tryz.prog w = .ok (.enter f args) w)
    (hf : ∀ x y w1, Ext w w1 → (x, y) ∈ l → Calls Tryz.prog f (#[.agg #[.int .i64 x, .int .i64 y]] ++ cap) w1 fun e w' => e = .returned (.bool (p (x, y))) ∧ Ext w1 w') :
    Calls Tryz.prog 47 #[.slice A l.length c, .func (.func f) #[] cap] w fun e w' => e = .returned (.bool (l.any p)) ∧ Ext w w' := by
  have H := Lib.hid (indexFunc_any f cap p l A c w hc hl hcall hf)
  clear hc hl hf hcall
  generalize l.length = n at *
  go_enter Tryz.func47, Tryz.ntmps47
  go_wp2_with fail
  refine H.out.mono ?_
  rintro e w1 ⟨rfl, hE⟩
  go_wp2
  go_ret
  exact ⟨ret_eq (by simp only [firstIdx_ge]; simp), hE⟩

/-- the cells from the address on hold slices of points -/
def RingsAt (w : World) (A : Option Addr) (L : List (List P2)) : Prop :=
  L ≠ [] → ∃ b o, A = some ⟨b, o, none⟩ ∧ ∀ i r, L[i]? = some r → ∃ v, w.cell? ⟨b, o + i, none⟩ = some v ∧ Pts w v r
theorem RingsAt.ext {w w' : World} {A : Option Addr} {L : List (List P2)} (h : RingsAt w A L) (he : Ext w w') : RingsAt w' A L := fun hl => by
  obtain ⟨b, o, e, hc⟩ := h hl
  refine ⟨b, o, e, fun i r hr => ?_⟩
  obtain ⟨v, h1, h2⟩ := hc i r hr
  exact ⟨v, he.cell h1, h2.ext he⟩
def Rings (w : World) (v : Value) (L : List (List P2)) : Prop := ∃ A c, v = .slice A L.length c ∧ L.length ≤ c ∧ L.length ≤ 17592186044416 ∧ RingsAt w A L
theorem Rings.ext {w w' : World} {v : Value} {L : List (List P2)} (h : Rings w v L) (he : Ext w w') : Rings w' v L := by
  obtain ⟨A, c, e, h1, h2, h3⟩ := h
  exact ⟨A, c, e, h1, h2, h3.ext he⟩
theorem Rings.stable (L : List (List P2)) : Stable (fun v w => Rings w v L) := fun _ _ _ h he => h.ext he

def lenS (L : List (List P2)) : Nat := (L.map List.length).sum
def validL (L : List (List P2)) : Bool := decide (lenS L ≤ 4096) && L.all fun r => r.all validS
theorem lenS_take_succ {L : List (List P2)} {k : Nat} {r : List P2} (h : L[k]? = some r) : lenS (L.take (k + 1)) = lenS (L.take k) + r.length := by
  unfold lenS
  rw [List.take_add_one, h]
  simp
theorem lenS_take_le (L : List (List P2)) (k : Nat) : lenS (L.take k) ≤ lenS L := by
  have e : lenS L = lenS (L.take k) + lenS (L.drop k) := by
    unfold lenS
    rw [← List.sum_append, ← List.map_append, List.take_append_drop]
  omega
theorem all_take_succ {L : List (List P2)} {k : Nat} {r : List P2} {p : List P2 → Bool} (h : L[k]? = some r) : (L.take (k + 1)).all p = ((L.take k).all p && p r) := by
  rw [List.take_add_one, h]
  simp
end Go.Proofs.YtodefmfgoehkhaaGreat

/- polygon.Valid and the reference's: how many points, and all in bounds. -/
set_option linter.unusedVariables false
set_option linter.unusedSimpArgs false
namespace Go.Proofs.YtodefmfgoehkhaaGreat
open Go.RowKit Go.Par

theorem validC_any (x y : Int) (w : World) :
    Calls Tryz.prog 48 #[.agg #[.int .i64 x, .int .i64 y]] w fun e w' => e = .returned (.bool (!validS (x, y))) ∧ Ext w w' := by
  go_enter Tryz.func48, Tryz.ntmps48
  go_wp2_with (go_at_call 28; refine (valid_any _ _ _).mono ?_; rintro e w1 ⟨rfl, hE⟩)
  go_ret
  exact ⟨rfl, (Ext.alloc _ _).trans hE⟩
theorem validC_call (args : Array Value) (w : World) : (callFunc 48 args).run Tryz.prog w = .ok (.enter 48 args) w := by kernel_rfl

theorem validL_false_len {L : List (List P2)} {k : Nat} (h : 4096 < lenS (L.take k)) : validL L = false := by
  have := lenS_take_le L k
  unfold validL
  rw [decide_eq_false (by omega)]
  rfl
theorem validL_false_at {L : List (List P2)} {k : Nat} {r : List P2} (h : L[k]? = some r) (hr : (r.any fun p => !validS p) = true) : validL L = false := by
  unfold validL
  have : (L.all fun r => r.all validS) = false := by
    rw [List.all_eq_false]
    refine ⟨r, List.mem_of_getElem? h, ?_⟩
    simp only [List.any_eq_true, Bool.not_eq_true'] at hr
    obtain ⟨x, hx, hv⟩ := hr
    simp only [List.all_eq_true, Classical.not_forall]
    exact ⟨x, hx, by rw [hv]; decide⟩
  rw [this, Bool.and_false]

set_option maxRecDepth 100000 in
set_option maxHeartbeats 800000 in
theorem Valid_any (L : List (List P2)) (A : Option Addr) (c : Nat) (w : World) (hc : L.length ≤ 17592186044416) (hL : RingsAt w A L) :
    Calls Tryz.prog 22 #[.slice A L.length c] w fun e w' => e = .returned (.bool (validL L)) ∧ Ext w w' := by
  obtain ⟨n, hn⟩ : ∃ n, n = L.length := ⟨_, rfl⟩
  rw [← hn]
  have HN := Lib.hid hn
  rw [← hn] at hc
  clear hn
  go_enter Tryz.func22, Tryz.ntmps22
  go_wp2_with fail
  go_loopw [3, 5, 8] (fun s _ i wr => ∃ k : Nat, k ≤ n ∧ i = .int .i64 k ∧ s = .int .i64 (lenS (L.take k)) ∧ lenS (L.take k) ≤ 4096 ∧ Ext w wr ∧ (L.take k).all (fun r => r.all validS) = true) (fun _ _ i _ => n - (intOf i).toNat)
  case atStart => exact ⟨0, Nat.zero_le _, rfl, rfl, Nat.zero_le _, Ext.refl _, rfl⟩
  case round =>
    obtain ⟨k, hk, rfl, rfl, hs, hE, hall⟩ := hrel
    have Hall := Lib.hid hall
    clear hall
    by_cases hlt : k < n
    · obtain ⟨r, hlk⟩ : ∃ r, L[k]? = some r := ⟨_, List.getElem?_eq_getElem (by rw [← HN.out]; exact hlt)⟩
      obtain ⟨b, o, rfl, hcell⟩ := hL (fun e => by rw [e] at hlk; simp at hlk)
      obtain ⟨v, c0, A', c', rfl, hlc, hlb, hP⟩ := hcell k r hlk
      have c1 := hE.cell c0
      have hP1 := hP.ext hE
      have hsum := lenS_take_succ hlk
      have hal := all_take_succ (p := fun r => r.all validS) hlk
      generalize lenS (L.take k) = s at *
      have HL := Lib.hid hlk
      have HS := Lib.hid hsum
      have HA := Lib.hid hal
      obtain ⟨m, hm⟩ : ∃ m, m = r.length := ⟨_, rfl⟩
      rw [← hm] at c1 hlb
      have HM := Lib.hid hm
      clear hlk hcell hsum hal c0 hP hm hlc
      go_wp2_with fail
      · have hbig : 4096 < s + m := by omega
        go_ret
        exact ⟨ret_eq (by rw [validL_false_len (k := k + 1) (by rw [HS.out, ← HM.out]; exact hbig)]; rfl), hE⟩
      · have hbig : ¬ 4096 < s + m := by omega
        rw [HM.out]
        refine (containsFunc_any 48 #[] (fun p => !validS p) r A' c' _ (by rw [← HM.out]; omega) hP1 validC_call (fun x y w1 _ _ => validC_any x y w1)).mono ?_
        rintro e w1 ⟨rfl, hE1⟩
        have hE2 := hE.trans hE1
        cases hv : r.any fun p => !validS p
        · go_wp2
          go_roundw
          case rel =>
            refine ⟨k + 1, by omega, by go_num, ?_, ?_, hE2, ?_⟩
            · rw [HS.out, ← HM.out]; go_num
            · rw [HS.out, ← HM.out]; omega
            · rw [HA.out, Hall.out, Bool.true_and, List.all_eq_true]
              intro p hp
              rw [List.any_eq_false] at hv
              simpa using hv p hp
          case measure => simp [intOf]; omega
        · go_wp2
          go_ret
          exact ⟨ret_eq (by rw [validL_false_at HL.out hv]; rfl), hE2⟩
    · have hkn : k = L.length := by rw [← HN.out]; omega
      have e : validL L = true := by
        have h1 := hs
        have h2 := Hall.out
        rw [hkn, List.take_length] at h1 h2
        unfold validL
        rw [decide_eq_true h1, h2]
        rfl
      clear hkn
      have E := Lib.hid e
      clear e
      go_wp2
      go_ret
      exact ⟨ret_eq (by rw [E.out]; rfl), hE⟩

theorem all_pts_succ {r : List P2} {k : Nat} {q : P2} (h : r[k]? = some q) : (r.take (k + 1)).all validS = ((r.take k).all validS && validS q) := by
  rw [List.take_add_one, h]
  simp
theorem validL_false_pt {L : List (List P2)} {k j : Nat} {r : List P2} {q : P2} (h : L[k]? = some r) (hq : r[j]? = some q) (hv : validS q = false) : validL L = false :=
  validL_false_at h (by rw [List.any_eq_true]; exact ⟨q, List.mem_of_getElem? hq, by rw [hv]; rfl⟩)
end Go.Proofs.YtodefmfgoehkhaaGreat
/- few; each; DoubleArea in the program and in the reference. -/
set_option linter.unusedVariables false
set_option linter.unusedSimpArgs false
namespace Go.Proofs.YtodefmfgoehkhaaGreat
open Go.RowKit Go.Par

def fewL (L : List (List P2)) : Bool := decide (L.length ≤ 40) && decide (lenS L ≤ 400)
theorem fewL_big {L : List (List P2)} {k : Nat} (h : 400 < lenS (L.take k)) : fewL L = false := by
  have := lenS_take_le L k
  unfold fewL
  rw [decide_eq_false (p := lenS L ≤ 400) (by omega), Bool.and_false]

/-! ## the edges of a ring -/
def edgesS (r : List P2) : List (P2 × P2) := r.zip (r.drop 1 ++ r.take 1)
theorem edgesS_length (r : List P2) : (edgesS r).length = r.length := by
  unfold edgesS
  rw [List.length_zip, List.length_append, List.length_drop, List.length_take]
  omega
theorem edgesS_at {r : List P2} {k : Nat} {p q : P2} (hp : r[k]? = some p) (hq : r[(k + 1) % r.length]? = some q) : (edgesS r)[k]? = some (p, q) := by
  have hk := (List.getElem?_eq_some_iff.1 hp).1
  unfold edgesS
  rw [List.getElem?_zip_eq_some]
  refine ⟨hp, ?_⟩
  by_cases h : k + 1 < r.length
  · rw [Nat.mod_eq_of_lt h] at hq
    rw [List.getElem?_append_left (by rw [List.length_drop]; omega), List.getElem?_drop, Nat.add_comm]
    exact hq
  · have hk1 : k + 1 = r.length := by omega
    rw [hk1, Nat.mod_self] at hq
    rw [List.getElem?_append_right (by rw [List.length_drop]; omega), List.length_drop, show k - (r.length - 1) = 0 by omega, List.getElem?_take, if_pos (by omega)]
    exact hq

def sumS (l : List (P2 × P2)) : Int := (l.map fun e => crossS (holdS e.1) (holdS e.2)).sum
def areaS (r : List P2) : Int := if validL [r] then sumS (edgesS r) else 0
theorem crossS_bd (p q : P2) : -4398046511104 ≤ crossS (holdS p) (holdS q) ∧ crossS (holdS p) (holdS q) ≤ 4398046511104 := by
  have b1 := mul_bd (a := 1048576) (b := 1048576) (by decide) (by decide) (heldS_lo p.1) (heldS_hi p.1) (heldS_lo q.2) (heldS_hi q.2)
  have b2 := mul_bd (a := 1048576) (b := 1048576) (by decide) (by decide) (heldS_lo p.2) (heldS_hi p.2) (heldS_lo q.1) (heldS_hi q.1)
  unfold crossS holdS
  simp only
  omega
theorem sumS_bd (l : List (P2 × P2)) : -(4398046511104 * (l.length : Int)) ≤ sumS l ∧ sumS l ≤ 4398046511104 * (l.length : Int) := by
  induction l with
  | nil => simp [sumS]
  | cons e l ih =>
    have := crossS_bd e.1 e.2
    unfold sumS at *
    simp only [List.map_cons, List.sum_cons, List.length_cons]
    omega
theorem sumS_take {l : List (P2 × P2)} {k : Nat} {e : P2 × P2} (h : l[k]? = some e) : sumS (l.take (k + 1)) = sumS (l.take k) + crossS (holdS e.1) (holdS e.2) := by
  unfold sumS
  rw [List.take_add_one, h]
  simp
theorem validL_one {r : List P2} : validL [r] = (decide (r.length ≤ 4096) && r.all validS) := by simp [validL, lenS]
theorem RingsAt.one {w : World} {b : Nat} {t : TypeId} {A : Option Addr} {c : Nat} {r : List P2} (hB : Box w b t #[.slice A r.length c]) (hc : r.length ≤ c) (hl : r.length ≤ 17592186044416) (hP : PtsAt w A r) :
    RingsAt w (some ⟨b, 0, none⟩) [r] := fun _ => ⟨b, 0, rfl, fun i q hq => by
  match i, hq with
  | 0, hq =>
    have : r = q := by simpa using hq
    subst this
    exact ⟨_, hB.cell 0, A, c, rfl, hc, hl, hP⟩⟩

theorem valid_one (r : List P2) (A : Option Addr) (c n b : Nat) (w : World) (hn : n = r.length) (hcc : n ≤ c) (hc : n ≤ 17592186044416) (hB : Box w b 47 #[.slice A n c]) (hP : PtsAt w A r) :
    Calls Tryz.prog 22 #[.slice (some ⟨b, 0, none⟩) 1 1] w fun e w' => e = .returned (.bool (validL [r])) ∧ Ext w w' := by
  subst hn
  exact Valid_any [r] (some ⟨b, 0, none⟩) 1 w (by simp) (RingsAt.one hB hcc hc hP)
/-- the sum over the first k edges, in block b -/
def AreaJ (w : World) (b : Nat) (r : List P2) (k : Nat) (W : World) : Prop := Box W b 3 #[.int .i64 (sumS ((edgesS r).take k))] ∧ Ext w W
end Go.Proofs.YtodefmfgoehkhaaGreat
/- The successor of a point; the reference's DoubleArea; winding numbers in the program and in the reference. -/
set_option linter.unusedVariables false
set_option linter.unusedSimpArgs false
namespace Go.Proofs.YtodefmfgoehkhaaGreat
open Go.RowKit Go.Par

/-! ## winding numbers -/
def turnS (p a b : P2) : Int :=
  if a.2 ≤ p.2 ∧ p.2 < b.2 ∧ 0 < orientS a b p then 1 else if b.2 ≤ p.2 ∧ p.2 < a.2 ∧ 0 < orientS b a p then -1 else 0
theorem turnS_bd (p a b : P2) : -1 ≤ turnS p a b ∧ turnS p a b ≤ 1 := by
  unfold turnS
  split
  · omega
  · split <;> omega
def windE (p : P2) (l : List (P2 × P2)) : Int := (l.map fun e => turnS p e.1 e.2).sum
def windR (p : P2) (r : List P2) : Int := windE p (edgesS r)
def windSum (p : P2) (L : List (List P2)) : Int := (L.map (windR p)).sum
def windL (L : List (List P2)) (p : P2) : Int := if validL L && validS p then windSum p L else 0
theorem windE_bd (p : P2) (l : List (P2 × P2)) : -(l.length : Int) ≤ windE p l ∧ windE p l ≤ l.length := by
  induction l with
  | nil => simp [windE]
  | cons e l ih =>
    have := turnS_bd p e.1 e.2
    unfold windE at *
    simp only [List.map_cons, List.sum_cons, List.length_cons]
    omega
theorem windR_bd (p : P2) (r : List P2) : -(r.length : Int) ≤ windR p r ∧ windR p r ≤ r.length := by
  have := windE_bd p (edgesS r)
  rw [edgesS_length] at this
  exact this
theorem windSum_bd (p : P2) (L : List (List P2)) : -(lenS L : Int) ≤ windSum p L ∧ windSum p L ≤ lenS L := by
  induction L with
  | nil => simp [windSum, lenS]
  | cons r L ih =>
    have := windR_bd p r
    unfold windSum lenS at *
    simp only [List.map_cons, List.sum_cons]
    omega
theorem windE_take {p : P2} {l : List (P2 × P2)} {k : Nat} {e : P2 × P2} (h : l[k]? = some e) : windE p (l.take (k + 1)) = windE p (l.take k) + turnS p e.1 e.2 := by
  unfold windE
  rw [List.take_add_one, h]
  simp
theorem windSum_take {p : P2} {L : List (List P2)} {k : Nat} {r : List P2} (h : L[k]? = some r) : windSum p (L.take (k + 1)) = windSum p (L.take k) + windR p r := by
  unfold windSum
  rw [List.take_add_one, h]
  simp
theorem validL_len {L : List (List P2)} (h : validL L = true) : lenS L ≤ 4096 := by
  unfold validL at h
  rw [Bool.and_eq_true, decide_eq_true_eq] at h
  exact h.1

end Go.Proofs.YtodefmfgoehkhaaGreat
/- polygon.WindingNumber. -/
set_option linter.unusedVariables false
set_option linter.unusedSimpArgs false
namespace Go.Proofs.YtodefmfgoehkhaaGreat
open Go.RowKit Go.Par

/-- the winding number behind some edges of ring k, in block bn -/
structure WindJ (w : World) (bp bn : Nat) (px py s : Int) (r : List P2) (k : Nat) (W : World) : Prop where
  p : Box W bp 49 #[.int .i64 px, .int .i64 py]
  n : Box W bn 3 #[.int .i64 (s + windE (px, py) ((edgesS r).take k))]
  ext : Ext w W

end Go.Proofs.YtodefmfgoehkhaaGreat
/- Fill rules: polygon.Fills looks its rule up in a map that it makes; Contains. -/
set_option linter.unusedVariables false
set_option linter.unusedSimpArgs false
namespace Go.Par
open Go.MapKept
section
variable {P : Program}
theorem push_set (l : Array Obj) (o o' : Obj) : (l.push o).setIfInBounds l.size o' = l.push o' := by
  refine Array.ext (by simp) fun i h1 h2 => ?_
  simp only [Array.size_setIfInBounds, Array.size_push] at h1
  rw [Array.getElem_setIfInBounds (by simpa using h1), Array.getElem_push, Array.getElem_push]
  by_cases h : i < l.size
  · rw [dif_pos h, if_neg (by omega), dif_pos h]
  · rw [dif_neg h, if_pos (by omega), dif_neg h]
theorem setObj_alloc (w : World) (es es' : Array MapEntry) (c c' : Nat) : (setObj w.heap.size (.map es' c')).run P (w.alloc (.map es c)) = .ok () (w.alloc (.map es' c')) := by
  rw [run_setObj_map (es := es) (clock := c) _ (by rw [heap_alloc_push]; simp)]
  have e : (w.alloc (.map es c)).heap.setIfInBounds w.heap.size (.map es' c') = (w.alloc (.map es' c')).heap := by
    rw [heap_alloc_push, heap_alloc_push, push_set]
  rw [e]
  rfl
theorem map_insert_alloc {t k e : TypeId} (ht : P.underlying t = some (.map k e)) (hk : P.underlying k = some (.int .i64)) (w : World) (es : Array MapEntry) (c : Nat) (n : Int) (v : Value)
    (hf : Instr.findNow (.int .i64) (.int .i64 n) es.toList 0 = some none) :
    (Instr.mapUpdate t (.map (some w.heap.size)) (.int .i64 n) v).run P (w.alloc (.map es c)) = .ok () (w.alloc (.map (es.push ⟨.int .i64 n, v, c⟩) (c + 1))) := by
  have hg : (getObj w.heap.size).run P (w.alloc (.map es c)) = .ok (.map es c) (w.alloc (.map es c)) := Go.MapKept.run_getObj_map (by rw [heap_alloc_push]; simp)
  have hc := run_checkKey (w := w.alloc (.map es c)) (k := .int .i64 n) hk (by simp [IsKey]) false 9999
  have hfk := run_findKey (w := w.alloc (.map es c)) hk hf
  simp only [Instr.mapUpdate, Sem.run_bind, run_underlying ht, Result.andThen, hg, hc, hfk, setObj_alloc]
theorem map_lookup_alloc {t k e : TypeId} (ht : P.underlying t = some (.map k e)) (hk : P.underlying k = some (.int .i64)) (w : World) (es : Array MapEntry) (c : Nat) (n : Int) (v : Value)
    (hf : Instr.findNow (.int .i64) (.int .i64 n) es.toList 0 = some none ∧ (∀ w, (zeroValue e).run P w = .ok v w) ∨ ∃ i, Instr.findNow (.int .i64) (.int .i64 n) es.toList 0 = some (some (i, v))) :
    (Instr.lookup t (.map (some w.heap.size)) (.int .i64 n) false).run P (w.alloc (.map es c)) = .ok v (w.alloc (.map es c)) := by
  have hg : (getObj w.heap.size).run P (w.alloc (.map es c)) = .ok (.map es c) (w.alloc (.map es c)) := Go.MapKept.run_getObj_map (by rw [heap_alloc_push]; simp)
  have hc := run_checkKey (w := w.alloc (.map es c)) (k := .int .i64 n) hk (by simp [IsKey]) es.isEmpty 9999
  rcases hf with ⟨hf, hz⟩ | ⟨i, hf⟩
  · have hfk := run_findKey (w := w.alloc (.map es c)) hk hf
    simp only [Instr.lookup, Sem.run_bind, run_underlying ht, Result.andThen, hg, Sem.run_pure, hc, hfk, hz]
    rfl
  · have hfk := run_findKey (w := w.alloc (.map es c)) hk hf
    simp only [Instr.lookup, Sem.run_bind, run_underlying ht, Result.andThen, hg, Sem.run_pure, hc, hfk]
    rfl
end
end Go.Par
namespace Go.Proofs.YtodefmfgoehkhaaGreat
open Go.RowKit Go.Par Go.MapKept

/-- n & mask of the rule is not 0 -/
def fillsS (n rule : Int) : Bool := if rule = 1 then n != 0 else if rule = 2 then n % 2 != 0 else false
theorem zero_int (w : World) : (zeroValue 3).run Tryz.prog w = .ok (.int .i64 0) w := by kernel_rfl
theorem and_all (n : Int) (h1 : -9223372036854775808 ≤ n) (h2 : n ≤ 9223372036854775807) : bits .and .i64 n (-1) = n := by
  have e : BitVec.ofInt 64 (-1) = BitVec.allOnes 64 := by decide
  show IntKind.i64.wrap ((BitVec.ofInt 64 n &&& BitVec.ofInt 64 (-1)).toNat : Int) = n
  rw [e, BitVec.and_allOnes, BitVec.toNat_ofInt, IntKind.wrap_i64]
  omega
theorem and_bit (n : Int) (h1 : -9223372036854775808 ≤ n) (h2 : n ≤ 9223372036854775807) : bits .and .i64 n 1 = n % 2 := by
  show IntKind.i64.wrap ((BitVec.ofInt 64 n &&& BitVec.ofInt 64 1).toNat : Int) = n % 2
  rw [BitVec.toNat_and, BitVec.toNat_ofInt, show (BitVec.ofInt 64 1).toNat = 1 from by decide, Nat.and_one_is_mod, IntKind.wrap_i64]
  omega
theorem and_none (n : Int) : bits .and .i64 n 0 = 0 := by
  show IntKind.i64.wrap ((BitVec.ofInt 64 n &&& BitVec.ofInt 64 0).toNat : Int) = 0
  rw [show BitVec.ofInt 64 0 = 0#64 from by decide, BitVec.and_zero]
  rfl
set_option maxRecDepth 100000 in
set_option maxHeartbeats 800000 in
theorem Fills_any (n rule : Int) (w : World) (h1 : -9223372036854775808 ≤ n) (h2 : n ≤ 9223372036854775807) :
    Calls Tryz.prog 69 #[.int .i64 n, .int .i64 rule] w fun e w' => e = .returned (.bool (fillsS n rule)) ∧ Ext w w' := by
  have hmm := @run_makeMap Tryz.prog
  have m1 := map_insert_alloc Tryz.underlying148 Tryz.underlying3 w #[] 0 1 (.int .i64 (-1)) rfl
  have m2 := map_insert_alloc Tryz.underlying148 Tryz.underlying3 w #[⟨.int .i64 1, .int .i64 (-1), 0⟩] 1 2 (.int .i64 1) rfl
  simp only [List.push_toArray, List.nil_append, List.cons_append, Nat.zero_add, Nat.reduceAdd] at m1 m2
  have hand : ∀ v, fillsS n rule = (bits .and .i64 n v != 0) → (Instr.lookup 148 (.map (some w.heap.size)) (.int .i64 rule) false).run Tryz.prog (w.alloc (.map #[⟨.int .i64 1, .int .i64 (-1), 0⟩, ⟨.int .i64 2, .int .i64 1, 1⟩] 2)) = .ok (.int .i64 v) (w.alloc (.map #[⟨.int .i64 1, .int .i64 (-1), 0⟩, ⟨.int .i64 2, .int .i64 1, 1⟩] 2)) →
      Calls Tryz.prog 69 #[.int .i64 n, .int .i64 rule] w fun e w' => e = .returned (.bool (fillsS n rule)) ∧ Ext w w' := by
    intro v hv m3
    have HV := Lib.hid hv
    clear hv h1 h2
    go_enter Tryz.func69, Tryz.ntmps69
    go_wp2
    go_ret
    exact ⟨ret_eq (by rw [HV.out]; rfl), Ext.alloc _ _⟩
  by_cases hr1 : rule = 1
  · subst hr1
    exact hand (-1) (by rw [and_all n h1 h2]; rfl) (map_lookup_alloc Tryz.underlying148 Tryz.underlying3 w _ 2 1 _ (.inr ⟨0, rfl⟩))
  · by_cases hr2 : rule = 2
    · subst hr2
      exact hand 1 (by rw [and_bit n h1 h2]; rfl) (map_lookup_alloc Tryz.underlying148 Tryz.underlying3 w _ 2 2 _ (.inr ⟨1, rfl⟩))
    · refine hand 0 (by rw [and_none]; simp [fillsS, hr1, hr2]) (map_lookup_alloc Tryz.underlying148 Tryz.underlying3 w _ 2 rule _ (.inl ⟨?_, zero_int⟩))
      have b1 : (rule == 1) = false := by simpa using hr1
      have b2 : (rule == 2) = false := by simpa using hr2
      simp [Instr.findNow, Instr.sameNow, b1, b2]

end Go.Proofs.YtodefmfgoehkhaaGreat
