/- slices.SortFunc at []int, off the kit's shelf: a row of small numbers, sorted by a closure. -/
import Derived.Test.YtefdheoalonbaaaInts
import Derived.Shelf.SlSortCmp.Whole1
import Derived.Ground.SlsfProg
set_option linter.unusedVariables false
set_option linter.unusedSimpArgs false
namespace Go.Proofs
open Go.Shelf Go.Lib
def Try.sortInt_ren : Go.Shelf.Ren := ⟨fun | 6 => 58 | 15 => 76 | 14 => 75 | 28 => 92 | 29 => 93 | 20 => 84 | 21 => 85 | 22 => 86 | 23 => 87 | 24 => 88 | 25 => 89 | 26 => 90 | 27 => 91 | 46 => 97 | 47 => 98 | 48 => 99 | 49 => 100 | 50 => 101 | 57 => 102 | n => n, fun | 22 => 49 | 24 => 3 | 25 => 63 | 3 => 3 | 39 => 61 | 0 => 0 | 53 => 104 | 55 => 48 | 4 => 4 | 46 => 97 | 45 => 96 | 50 => 101 | 5 => 5 | 9 => 9 | 66 => 108 | 70 => 112 | 76 => 114 | 77 => 71 | n => n, fun | n => n⟩
theorem Try.sortInt : Go.Proofs.SlLaysF.n6 Try.prog Try.sortInt_ren := {
  mixed := by kernel_rfl
  f6 := ⟨Try.f58.name, by decide, Try.func58.trans (congrArg some (by kernel_rfl))⟩
  f14 := ⟨Try.f75.name, by decide, Try.func75.trans (congrArg some (by kernel_rfl))⟩
  f15 := Try.func76.trans (congrArg some (by kernel_rfl))
  f20 := ⟨Try.f84.name, by decide, Try.func84.trans (congrArg some (by kernel_rfl))⟩
  f21 := ⟨Try.f85.name, by decide, Try.func85.trans (congrArg some (by kernel_rfl))⟩
  f22 := ⟨Try.f86.name, by decide, Try.func86.trans (congrArg some (by kernel_rfl))⟩
  f23 := ⟨Try.f87.name, by decide, Try.func87.trans (congrArg some (by kernel_rfl))⟩
  f24 := ⟨Try.f88.name, by decide, Try.func88.trans (congrArg some (by kernel_rfl))⟩
  f25 := ⟨Try.f89.name, by decide, Try.func89.trans (congrArg some (by kernel_rfl))⟩
  f26 := ⟨Try.f90.name, by decide, Try.func90.trans (congrArg some (by kernel_rfl))⟩
  f27 := ⟨Try.f91.name, by decide, Try.func91.trans (congrArg some (by kernel_rfl))⟩
  f28 := Try.func92.trans (congrArg some (by kernel_rfl))
  f29 := Try.func93.trans (congrArg some (by kernel_rfl))
  f46 := ⟨Try.f97.name, by decide, Try.func97.trans (congrArg some (by kernel_rfl))⟩
  f47 := Try.func98.trans (congrArg some (by kernel_rfl))
  f48 := Try.func99.trans (congrArg some (by kernel_rfl))
  f49 := ⟨Try.f100.name, by decide, Try.func100.trans (congrArg some (by kernel_rfl))⟩
  f50 := ⟨Try.f101.name, by decide, Try.func101.trans (congrArg some (by kernel_rfl))⟩
  f57 := ⟨Try.f102.name, by decide, Try.func102.trans (congrArg some (by kernel_rfl))⟩
  t0 := Try.underlying0
  a0 := Try.isAgg0
  z0 := Try.sizeOf0
  v0 := Try.zeroValue0
  t3 := Try.underlying3
  a3 := Try.isAgg3
  z3 := Try.sizeOf3
  v3 := Try.zeroValue3
  t4 := Try.underlying4
  a4 := Try.isAgg4
  z4 := Try.sizeOf4
  v4 := Try.zeroValue4
  t5 := Try.underlying5
  a5 := Try.isAgg5
  z5 := Try.sizeOf5
  v5 := Try.zeroValue5
  t9 := Try.underlying9
  a9 := Try.isAgg9
  z9 := Try.sizeOf9
  v9 := Try.zeroValue9
  t22 := Try.underlying49
  a22 := Try.isAgg49
  z22 := Try.sizeOf49
  v22 := Try.zeroValue49
  a24 := Try.isAgg3
  z24 := Try.sizeOf3
  t25 := Try.underlying63
  a25 := Try.isAgg63
  z25 := Try.sizeOf63
  v25 := Try.zeroValue63
  t39 := Try.underlying61
  a39 := Try.isAgg61
  z39 := Try.sizeOf61
  v39 := Try.zeroValue61
  t45 := Try.underlying96
  a45 := Try.isAgg96
  z45 := Try.sizeOf96
  v45 := Try.zeroValue96
  t46 := Try.underlying97
  a46 := Try.isAgg97
  z46 := Try.sizeOf97
  v46 := Try.zeroValue97
  t50 := Try.underlying101
  a50 := Try.isAgg101
  z50 := Try.sizeOf101
  v50 := Try.zeroValue101
  t53 := Try.underlying104
  a53 := Try.isAgg104
  z53 := Try.sizeOf104
  v53 := Try.zeroValue104
  t55 := Try.underlying48
  a55 := Try.isAgg48
  z55 := Try.sizeOf48
  v55 := Try.zeroValue48
  t66 := Try.underlying108
  a66 := Try.isAgg108
  z66 := Try.sizeOf108
  v66 := Try.zeroValue108
  t70 := Try.underlying112
  a70 := Try.isAgg112
  z70 := Try.sizeOf112
  v70 := Try.zeroValue112
  t76 := Try.underlying114
  a76 := Try.isAgg114
  z76 := Try.sizeOf114
  v76 := Try.zeroValue114
  t77 := Try.underlying71
  a77 := Try.isAgg71
  z77 := Try.sizeOf71
  v77 := Try.zeroValue71 }
end Go.Proofs
namespace Go.Proofs.Ytefdheoalonbaaa
open Go.RowKit Go.Par Go.Sort Go.Lib

/-- all that was there is as it was; no draw is taken back -/
def ExtD (w w' : World) : Prop := Ext w w' ∧ w.drawn ≤ w'.drawn
theorem extD_grow {w w' : World} (h : ExtD w w') : ∃ q os, w' = grow (w.drewN q) os := by
  obtain ⟨h, hd⟩ := h
  refine ⟨w'.drawn - w.drawn, w'.heap.extract w.heap.size w'.heap.size, ?_⟩
  have hh : w'.heap = w.heap ++ w'.heap.extract w.heap.size w'.heap.size := by
    apply Array.ext_getElem?
    intro i
    have hs := h.size
    by_cases hi : i < w.heap.size
    · rw [Array.getElem?_append_left hi]
      exact Below.block h i hi
    · rw [Array.getElem?_append_right (by omega), Array.getElem?_extract]
      by_cases hi2 : i < w'.heap.size
      · rw [if_pos (by omega)]
        congr 1
        omega
      · rw [if_neg (by omega), Array.getElem?_eq_none (by omega)]
  have e1 := Below.os h
  have e2 := Below.tape h
  have e3 := Below.output h
  cases w with
  | mk heap tape drawn os output =>
    cases w' with
    | mk heap' tape' drawn' os' output' =>
      simp only at e1 e2 e3 hh hd
      subst e1 e2 e3
      unfold grow World.drewN
      simp only [World.mk.injEq, true_and, and_true]
      exact ⟨hh, by omega⟩
abbrev F8 := Fin 256
def encF (x : F8) : Value := .int .i64 (x.val : Int)
def ofF (l : List F8) : List Int := l.map fun x => (x.val : Int)
theorem ofF_length (l : List F8) : (ofF l).length = l.length := by simp [ofF]
theorem ext_grow (W : World) (os : Array Obj) : Ext W (grow W os) :=
  ⟨rfl, rfl, rfl, by simp [grow], fun k hk => by simp [grow, Array.getElem?_append_left hk]⟩
theorem but_putRow {α : Type} [Inhabited α] {w : World} {g : Nat} (enc : α → Value) (off m : Nat) (d : Array α) : But g w (putRow enc (Sort.ahead w m) g off d) :=
  ⟨rfl, rfl, rfl, by show w.heap.size ≤ (w.heap.modify g _).size; rw [Array.size_modify]; exact Nat.le_refl _, fun k hk hne => by
    show (w.heap.modify g _)[k]? = _
    rw [Array.getElem?_modify, if_neg (fun e => hne e.symm)]⟩
theorem intOwn_holds {w : World} {B g n cap : Nat} {l : List F8} (h : intE.Own w B (.slice (some ⟨g, 0, none⟩) n cap) (ofF l)) : Holds encF w g 0 l.toArray := fun j hj => by
  have hj' : j < l.length := by simpa using hj
  rw [Nat.zero_add]
  refine ⟨?_, intOwn_frozen h⟩
  have := intOwn_cell h (i := j) (x := (l[j].val : Int)) (by unfold ofF; rw [List.getElem?_map, List.getElem?_eq_getElem hj']; rfl)
  rw [this]
  rw [getElem!_pos l.toArray j hj]
  rfl
theorem intOwn_put {w : World} {B g n cap : Nat} {l : List F8} (h : intE.Own w B (.slice (some ⟨g, 0, none⟩) n cap) (ofF l)) (d : Array F8) (hd : d.size = n) (m : Nat) : intE.Own (putRow encF (Sort.ahead w m) g 0 d) B (.slice (some ⟨g, 0, none⟩) n cap) (ofF d.toList) := by
  obtain ⟨cur, hl, hb, hg, hcap, hm, hs, hc⟩ := h.opened
  refine EL.Own.mk (cur := putCells encF 0 d cur) (by rw [ofF_length]; simp [hd]) hb ?_ hcap hm (by rw [← hs]; simp [putCells]) fun j v hv => ?_
  · unfold Box at hg ⊢
    show (w.heap.modify g _)[g]? = _
    rw [Array.getElem?_modify, if_pos rfl, hg]
    rfl
  · rw [intE_cells, List.getElem?_map] at hv
    unfold ofF at hv
    rw [List.getElem?_map] at hv
    obtain ⟨y, hy⟩ : ∃ y, d.toList[j]? = some y := by
      cases hq : d.toList[j]? with
      | none => rw [hq] at hv; cases hv
      | some y => exact ⟨y, rfl⟩
    rw [hy] at hv
    have hj := (List.getElem?_eq_some_iff.1 hy).1
    rw [Array.length_toList] at hj
    have hjc : j < cur.size := by rw [hs]; simp [intE]; omega
    unfold putCells
    rw [Array.getElem?_mapIdx, Array.getElem?_eq_getElem hjc]
    simp only [Option.map_some]
    rw [if_pos ⟨Nat.zero_le _, by omega⟩, Nat.sub_zero, getElem!_pos d j hj]
    rw [← hv]
    rw [Array.getElem?_toList, Array.getElem?_eq_getElem hj] at hy
    injection hy with hy
    rw [hy]
    rfl
theorem sortInt_any {w : World} {B g n cap : Nat} {l : List F8} (h : intE.Own w B (.slice (some ⟨g, 0, none⟩) n cap) (ofF l)) (hn : n ≤ 1000000) (f : Nat) (cb : Array Value) (key : F8 → Int)
    (eg : ∀ args w, (callFunc f args).run Try.prog w = .ok (.enter f args) w)
    (hcmp : CmpLays1 Try.prog f cb encF (fun x y => if key x < key y then -1 else if key y < key x then 1 else 0) g 0 n w) :
    Calls Try.prog 58 #[.slice (some ⟨g, 0, none⟩) n cap, .func (.func f) #[] cb] w fun e w' =>
      e = .returned (.tuple #[]) ∧ ∃ l' : List F8, l'.Perm l ∧ l'.Pairwise (fun a b => key a ≤ key b) ∧ intE.Own w' B (.slice (some ⟨g, 0, none⟩) n cap) (ofF l') ∧ But g w w' := by
  obtain ⟨cur, hl, hb, hgb, hcap, hm, hs0, hc⟩ := h.opened
  rw [ofF_length] at hl
  have hs : l.toArray.size = n := by rw [List.size_toArray]; exact hl.symm
  have hlt : ∀ x y : F8, ltOf (fun x y => if key x < key y then -1 else if key y < key x then 1 else 0) x y = decide (key x < key y) := by
    intro x y
    unfold ltOf
    by_cases h1 : key x < key y
    · simp [h1]
    · by_cases h2 : key y < key x <;> simp [h1, h2]
  have hO : SWO (ltOf (fun x y : F8 => if key x < key y then (-1 : Int) else if key y < key x then 1 else 0)) := {
    irrefl := fun x => by rw [hlt]; simp
    trans := fun x y z h1 h2 => by rw [hlt, decide_eq_true_eq] at *; omega
    ntrans := fun x y z h1 h2 => by rw [hlt, decide_eq_false_iff_not] at *; omega }
  have hcon := Any.slices_SortFunc Try.sortInt encF (fun x => rfl) _ hO f cb g 0 cap l.toArray w eg (by rw [hs]; exact hcmp) (intOwn_holds h) hgb.lt (by rw [hs]; omega)
  rw [hs] at hcon
  refine Calls.mono hcon ?_
  rintro e w' ⟨rfl, d', m, os, hp, hso, rfl⟩
  obtain ⟨hsz, _, hperm⟩ := hp
  rw [hs] at hsz
  refine ⟨rfl, d'.toList, ?_, ?_, (intOwn_put h d' hsz m).ext (ext_grow _ os), (but_putRow encF 0 m d').trans (But.of_ext (ext_grow _ os))⟩
  · have e1 : d'.extract 0 n = d' := by rw [← hsz]; simp
    have e2 : l.toArray.extract 0 n = l.toArray := by rw [← hs]; simp
    rw [e1, e2] at hperm
    simpa using hperm
  · rw [List.pairwise_iff_getElem]
    intro i j hi hj hij
    simp only [Array.length_toList] at hi hj
    have := hso i j (Nat.zero_le _) hij (by omega)
    rw [hlt, getElem!_pos d' i hi, getElem!_pos d' j hj, decide_eq_false_iff_not] at this
    simpa using this
end Go.Proofs.Ytefdheoalonbaaa
