/- The iterator of starts: from, from + by, .. below to. -/
import Derived.Test.YtefdheoalonbaaaRowG
import Derived.Test.YtefdheoalonbaaaRows
import Derived.RangeFuncNested
import Derived.RangeFuncBound
import Derived.RangeFuncCalls
import Derived.RangeFuncLeaves
import Derived.RangeFuncBox
import Derived.Shelf.Abstract
import Derived.OwnWalkIn
import Derived.TacticsInMore
import Derived.LoopNIn
import Derived.LoopIn
set_option linter.unusedVariables false
set_option linter.unusedSimpArgs false
namespace Go.Proofs.Ytefdheoalonbaaa
open Go.RowKit Go.Par Go.Shelf
attribute [local go_sem] Oper.semAt_some

def startL (lo by_ : Int) (m : Nat) : List Int := (List.range m).map fun (k : Nat) => lo + (k : Int) * by_
theorem startL_succ (lo by_ : Int) (m : Nat) : startL lo by_ (m + 1) = startL lo by_ m ++ [lo + (m : Int) * by_] := by
  unfold startL
  rw [List.range_succ, List.map_append]
  rfl
/-- a step between two rounds: old blocks (but Bo) and cells of other types than tr, ts lie as they lay -/
structure KpT (c₀ Bo : Nat) (tr ts : TypeId) (A B : World) : Prop where
  size : A.heap.size ≤ B.heap.size
  old : ∀ (k : Nat), k < c₀ → k ≠ Bo → B.heap[k]? = A.heap[k]?
  typ : ∀ (k : Nat) (cs : Array Value) (t : TypeId) (f : Nat × Nat), A.heap[k]? = some (Obj.cells cs t f) → t ≠ tr → t ≠ ts → B.heap[k]? = A.heap[k]?
section
variable {c₀ Bo : Nat} {tr ts : TypeId}
theorem KpT.refl (A : World) : KpT c₀ Bo tr ts A A := ⟨Nat.le_refl _, fun _ _ _ => rfl, fun _ _ _ _ _ _ _ => rfl⟩
theorem KpT.trans {A B C : World} (h : KpT c₀ Bo tr ts A B) (k : KpT c₀ Bo tr ts B C) : KpT c₀ Bo tr ts A C :=
  ⟨Nat.le_trans h.size k.size, fun i hi hne => (k.old i hi hne).trans (h.old i hi hne), fun i cs t f hc h1 h2 => by
    have e := h.typ i cs t f hc h1 h2
    exact (k.typ i cs t f (e.trans hc) h1 h2).trans e⟩
theorem KpT.putObj {W : World} {l : Nat} {o : Obj} (o' : Obj) (hl : c₀ ≤ l) (h : W.heap[l]? = some o) (ho : o.isCells = false) : KpT c₀ Bo tr ts W (W.putObj l o') :=
  ⟨(grownBy_putObj' W l o').size, fun k hk _ => World.putObj_heap_other (by omega), fun k cs t f hc _ _ => World.putObj_heap_other (fun e => by subst e; rw [h] at hc; injection hc with hc; subst hc; cases ho)⟩
theorem KpT.alloc {W : World} (h : c₀ ≤ W.heap.size) (o : Obj) : KpT c₀ Bo tr ts W (W.alloc o) :=
  ⟨by simp, fun k hk _ => Below.heap_alloc W o k (by omega), fun k cs t f hc _ _ => Below.heap_alloc W o k (Array.getElem?_eq_some_iff.1 hc).1⟩
theorem KpT.box {A B : World} {b : Nat} {t : TypeId} {cs : Array Value} (h : KpT c₀ Bo tr ts A B) (hB : Box A b t cs) (h1 : t ≠ tr) (h2 : t ≠ ts) : Box B b t cs := (h.typ b cs t (0, 0) hB h1 h2).trans hB
theorem KpT.boxOld {A B : World} {b : Nat} {t : TypeId} {cs : Array Value} (h : KpT c₀ Bo tr ts A B) (hB : Box A b t cs) (h1 : b < c₀) (h2 : b ≠ Bo) : Box B b t cs := (h.old b h1 h2).trans hB
theorem ownFrom_KpT {β : Type} {B0 : Nat} {W0 : World} (h1 : c₀ ≤ B0) (h2 : c₀ ≤ W0.heap.size) : OwnFrom B0 (fun (_ : β) W => KpT c₀ Bo tr ts W0 W) :=
  fun _ X Y row hs hg hr => ⟨Nat.le_trans hs.size hg.size, fun k hk hne => by
    have := hs.size
    exact (hg.block k (by omega) (fun e => by have := (hr k e.symm).1; omega)).trans (hs.old k hk hne), fun k cs t f hc h3 h4 => by
    have e := hs.typ k cs t f hc h3 h4
    have hX := e.trans hc
    refine (hg.block k (Array.getElem?_eq_some_iff.1 hX).1 (fun e' => ?_)).trans e
    obtain ⟨_, o, ho, hoc⟩ := hr k e'.symm
    rw [hX] at ho
    injection ho with ho
    subst ho
    cases hoc⟩
end
theorem startL_length (lo by_ : Int) (m : Nat) : (startL lo by_ m).length = m := by simp [startL]
set_option maxRecDepth 100000 in
set_option maxHeartbeats 1000000 in
theorem starts1_in (n : Nat) (l Bf Bt Bb : Nat) (lo to by_ : Int) (m : Nat) (h1 : -100000 ≤ lo) (h2 : to ≤ 100000) (h3 : 1 ≤ by_) (h4 : by_ ≤ 9223372036854775807) (hlt : ∀ k : Nat, k < m → lo + (k : Int) * by_ < to) (hend : to ≤ lo + (m : Int) * by_)
    (Kp : World → World → Prop) (hKr : ∀ A, Kp A A) (hKt : ∀ {A B C : World}, Kp A B → Kp B C → Kp A C) (hkeep : ∀ A B b v, Kp A B → Box A b 3 #[v] → Box B b 3 #[v]) (J Jx : List Int → World → Prop)
    (hY : ∀ pre x W, J pre W → pre.length < m → lo ≤ x → x < to → YieldAt Fence.wide (n - 1) Try.prog l #[.int .i64 x] W fun e W' =>
      (e = .returned (.bool true) ∧ J (pre ++ [x]) W' ∧ Kp W W') ∨ (e = .returned (.bool false) ∧ Jx (pre ++ [x]) W'))
    (W : World) (bf : Box W Bf 3 #[.int .i64 lo]) (bt : Box W Bt 3 #[.int .i64 to]) (bb : Box W Bb 3 #[.int .i64 by_]) (h0 : J [] W) :
    CallsIn Fence.wide n Try.prog 94 #[.func (.yield l) #[] #[], .pointer (some ⟨Bf, 0, none⟩), .pointer (some ⟨Bt, 0, none⟩), .pointer (some ⟨Bb, 0, none⟩)] W fun e W' => (∃ v, e = .returned v) ∧
      ((∃ ys, ys = startL lo by_ m ∧ J ys W') ∨ (∃ pre, pre <+: startL lo by_ m ∧ Jx pre W')) := by
  have HLT := Lib.hid hlt
  have HEND := Lib.hid hend
  clear hlt hend
  refine callsIn_of_wp Try.func94 rfl trivial ?_ rfl
  simp only [Try.ntmps94, List.size_toArray, List.length_cons, List.length_nil, Nat.reduceAdd, Nat.reduceSub, Array.replicate_succ, Array.replicate_zero, List.push_toArray, List.append_toArray, List.nil_append, List.cons_append]
  have cf0 := bf.cell
  gi_wp2
  clear cf0
  gi_loopw [5] (fun i wr => ∃ (k : Nat) (x : Int), k ≤ m ∧ i = .int .i64 x ∧ Hid (x = lo + (k : Int) * by_) ∧ lo ≤ x ∧ J (startL lo by_ k) wr ∧ Kp W wr)
    (fun i _ => (to - intOf i).toNat)
  case atStart => exact ⟨0, lo, Nat.zero_le _, rfl, Lib.hid (by simp), Int.le_refl _, h0, hKr _⟩
  case round =>
    obtain ⟨k, x, hk, rfl, HX, hlo, hJs, hnx⟩ := hrel
    have bt' := hkeep _ _ _ _ hnx bt
    have bb' := hkeep _ _ _ _ hnx bb
    have ct' := bt'.cell
    have cb' := bb'.cell
    by_cases hkm : k < m
    · have hxt : x < to := by rw [HX.out]; exact HLT.out k hkm
      obtain ⟨fn, tmps, assign, body, hy, hR⟩ := hY _ x wr hJs (by rw [startL_length]; exact hkm) hlo hxt
      have HS := Lib.hid (show startL lo by_ (k + 1) = startL lo by_ k ++ [x] from by rw [startL_succ, HX.out])
      gi_wp2
      refine ⟨fun h => (by simp [Fence.wide] at h), ?_⟩
      refine hR.mono ?_
      rintro e W3 (⟨rfl, hJ3, hk3⟩ | ⟨rfl, hJx3⟩)
      · have ct3 := (hkeep _ _ _ _ hk3 bt').cell
        have cb3 := (hkeep _ _ _ _ hk3 bb').cell
        have w1 : IntKind.i64.wrap (to - x) = to - x := IntWalk.i64_in _ (by omega)
        have HN := Lib.hid (show x + by_ = lo + ((k + 1 : Nat) : Int) * by_ from by rw [HX.out]; grind)
        by_cases hbig : to - x < by_
        · have hkm1 : k + 1 = m := by
            rcases Nat.lt_or_ge (k + 1) m with h | h
            · have := HLT.out _ h
              rw [← HN.out] at this
              omega
            · omega
          clear ct' cb' hy
          gi_wp2
          refine bodyPost_ret (results_none rfl _ _ _) rfl ?_
          exact ⟨⟨_, rfl⟩, .inl ⟨_, rfl, by rw [← hkm1, HS.out]; exact hJ3⟩⟩
        · have w2 : IntKind.i64.wrap (x + by_) = x + by_ := IntWalk.i64_in _ (by omega)
          clear ct' cb' hy
          gi_wp2
          go_roundw
          case rel => exact ⟨k + 1, x + by_, by omega, rfl, HN, by omega, by rw [HS.out]; exact hJ3, hKt hnx hk3⟩
          case measure => simp [intOf]; omega
      · clear ct' cb' hy
        gi_wp2
        go_end0
        refine ⟨⟨_, rfl⟩, .inr ⟨_, ?_, hJx3⟩⟩
        rw [← HS.out]
        refine ⟨(List.range (m - (k + 1))).map fun (j : Nat) => lo + ((k + 1 + j : Nat) : Int) * by_, ?_⟩
        have e1 := @List.range_add (k + 1) (m - (k + 1))
        rw [show k + 1 + (m - (k + 1)) = m by omega] at e1
        unfold startL
        rw [e1, List.map_append, List.map_map]
        rfl
    · obtain rfl : k = m := by omega
      have hge : to ≤ x := by rw [HX.out]; exact HEND.out
      gi_wp2
      refine ⟨fun _ h => (by cases h), ?_⟩
      gi_wp2
      go_end0
      exact ⟨⟨_, rfl⟩, .inl ⟨_, rfl, hJs⟩⟩
end Go.Proofs.Ytefdheoalonbaaa
