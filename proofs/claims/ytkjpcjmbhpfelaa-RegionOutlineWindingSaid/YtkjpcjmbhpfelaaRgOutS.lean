/- Outlines of the program: rings sorted by their first points, off the kit's shelf. -/
import Derived.Test.YtkjpcjmbhpfelaaRgCmp
import Derived.Shelf.SlSortCmp.Whole1
set_option linter.unusedVariables false
set_option linter.unusedSimpArgs false
namespace Go.Proofs
open Go.Shelf Go.Lib
def Try.sortRingL_ren : Go.Shelf.Ren := ⟨fun | 6 => 71 | 15 => 83 | 14 => 86 | 28 => 107 | 29 => 108 | 20 => 110 | 21 => 111 | 22 => 112 | 23 => 113 | 24 => 114 | 25 => 115 | 26 => 116 | 27 => 117 | 46 => 131 | 47 => 127 | 48 => 128 | 49 => 132 | 50 => 133 | 57 => 145 | n => n, fun | 22 => 49 | 24 => 52 | 25 => 84 | 3 => 3 | 39 => 98 | 0 => 0 | 53 => 125 | 55 => 127 | 4 => 4 | 46 => 117 | 45 => 116 | 50 => 122 | 5 => 5 | 9 => 9 | 66 => 142 | 70 => 146 | 76 => 156 | 77 => 157 | n => n, fun | n => n⟩
theorem Try.sortRingL : Go.Proofs.SlLaysF.n6 Try.prog Try.sortRingL_ren := {
  mixed := by kernel_rfl
  f6 := ⟨Try.f71.name, by decide, Try.func71.trans (congrArg some (by kernel_rfl))⟩
  f14 := ⟨Try.f86.name, by decide, Try.func86.trans (congrArg some (by kernel_rfl))⟩
  f15 := Try.func83.trans (congrArg some (by kernel_rfl))
  f20 := ⟨Try.f110.name, by decide, Try.func110.trans (congrArg some (by kernel_rfl))⟩
  f21 := ⟨Try.f111.name, by decide, Try.func111.trans (congrArg some (by kernel_rfl))⟩
  f22 := ⟨Try.f112.name, by decide, Try.func112.trans (congrArg some (by kernel_rfl))⟩
  f23 := ⟨Try.f113.name, by decide, Try.func113.trans (congrArg some (by kernel_rfl))⟩
  f24 := ⟨Try.f114.name, by decide, Try.func114.trans (congrArg some (by kernel_rfl))⟩
  f25 := ⟨Try.f115.name, by decide, Try.func115.trans (congrArg some (by kernel_rfl))⟩
  f26 := ⟨Try.f116.name, by decide, Try.func116.trans (congrArg some (by kernel_rfl))⟩
  f27 := ⟨Try.f117.name, by decide, Try.func117.trans (congrArg some (by kernel_rfl))⟩
  f28 := Try.func107.trans (congrArg some (by kernel_rfl))
  f29 := Try.func108.trans (congrArg some (by kernel_rfl))
  f46 := ⟨Try.f131.name, by decide, Try.func131.trans (congrArg some (by kernel_rfl))⟩
  f47 := Try.func127.trans (congrArg some (by kernel_rfl))
  f48 := Try.func128.trans (congrArg some (by kernel_rfl))
  f49 := ⟨Try.f132.name, by decide, Try.func132.trans (congrArg some (by kernel_rfl))⟩
  f50 := ⟨Try.f133.name, by decide, Try.func133.trans (congrArg some (by kernel_rfl))⟩
  f57 := ⟨Try.f145.name, by decide, Try.func145.trans (congrArg some (by kernel_rfl))⟩
  t0 := Try.underlying0
  a0 := Try.isAgg0
  z0 := Try.sizeOf0
  v0 := Try.zeroValue0
  t3 := Try.underlying3
  a3 := Try.isAgg3
  z3 := Try.sizeOf3
  v3 := Try.zeroValue3
  t4 := Try.underlying4
  a4 := Try.isAgg4
  z4 := Try.sizeOf4
  v4 := Try.zeroValue4
  t5 := Try.underlying5
  a5 := Try.isAgg5
  z5 := Try.sizeOf5
  v5 := Try.zeroValue5
  t9 := Try.underlying9
  a9 := Try.isAgg9
  z9 := Try.sizeOf9
  v9 := Try.zeroValue9
  t22 := Try.underlying49
  a22 := Try.isAgg49
  z22 := Try.sizeOf49
  v22 := Try.zeroValue49
  a24 := Try.isAgg52
  z24 := Try.sizeOf52
  t25 := Try.underlying84
  a25 := Try.isAgg84
  z25 := Try.sizeOf84
  v25 := Try.zeroValue84
  t39 := Try.underlying98
  a39 := Try.isAgg98
  z39 := Try.sizeOf98
  v39 := Try.zeroValue98
  t45 := Try.underlying116
  a45 := Try.isAgg116
  z45 := Try.sizeOf116
  v45 := Try.zeroValue116
  t46 := Try.underlying117
  a46 := Try.isAgg117
  z46 := Try.sizeOf117
  v46 := Try.zeroValue117
  t50 := Try.underlying122
  a50 := Try.isAgg122
  z50 := Try.sizeOf122
  v50 := Try.zeroValue122
  t53 := Try.underlying125
  a53 := Try.isAgg125
  z53 := Try.sizeOf125
  v53 := Try.zeroValue125
  t55 := Try.underlying127
  a55 := Try.isAgg127
  z55 := Try.sizeOf127
  v55 := Try.zeroValue127
  t66 := Try.underlying142
  a66 := Try.isAgg142
  z66 := Try.sizeOf142
  v66 := Try.zeroValue142
  t70 := Try.underlying146
  a70 := Try.isAgg146
  z70 := Try.sizeOf146
  v70 := Try.zeroValue146
  t76 := Try.underlying156
  a76 := Try.isAgg156
  z76 := Try.sizeOf156
  v76 := Try.zeroValue156
  t77 := Try.underlying157
  a77 := Try.isAgg157
  z77 := Try.sizeOf157
  v77 := Try.zeroValue157 }
end Go.Proofs
namespace Go.Proofs.Ytkjpcjmbhpfelaa
open Go.RowKit Go.Par Go.Reg Go.Sort Go.Lib

abbrev Sl := Option Addr × Nat × Nat
/-- slices of points, in a row -/
def ptsE : EL Try.prog Sl where
  enc := fun r => [.slice r.1 r.2.1 r.2.2]
  size := 1
  t := 52
  st := 49
  zero := .slice none 0 0
  bytes := 24
  len := fun _ => rfl
  one := fun x v hv => by simp at hv; rcases hv with rfl; rfl
  pos := by decide
  und := Try.underlying49
  info := by kernel_rfl
  zsize := rfl
  small := by decide
abbrev SlP := Sl × (Int × Int)
def encP (x : SlP) : Value := .slice x.1.1 x.1.2.1 x.1.2.2
/-- a slice whose first point is the one beside it -/
def FirstIs (w : World) (g : Nat) (x : SlP) : Prop := ∃ b o, x.1.1 = some ⟨b, o, none⟩ ∧ b ≠ g ∧ 0 < x.1.2.1 ∧ w.cell? ⟨b, o, none⟩ = some (.int .i64 x.2.1) ∧ w.cell? ⟨b, o + 1, none⟩ = some (.int .i64 x.2.2) ∧
  (-4294967296 ≤ x.2.1 ∧ x.2.1 ≤ 4294967296) ∧ (-4294967296 ≤ x.2.2 ∧ x.2.2 ≤ 4294967296)
theorem ptsE_cells (l : List Sl) : ptsE.cells l = l.map fun r => Value.slice r.1 r.2.1 r.2.2 := by
  induction l with
  | nil => rfl
  | cons x l ih => rw [EL.cells_cons, ih]; rfl
theorem ltOf_bef {α : Type} (f : α → Int × Int) (x y : α) : ltOf (fun a b => befS (f a) (f b)) x y = decide ((f x).2 < (f y).2 ∨ (f x).2 = (f y).2 ∧ (f x).1 < (f y).1) := by
  unfold ltOf befS
  show decide ((if (f x).2 = (f y).2 then (f x).1 - (f y).1 else (f x).2 - (f y).2) < 0) = _
  by_cases h : (f x).2 = (f y).2
  · rw [if_pos h]; simp [h]; omega
  · rw [if_neg h]; simp [h]; omega
theorem swo_bef {α : Type} (f : α → Int × Int) : SWO (ltOf fun a b => befS (f a) (f b)) where
  irrefl x := by rw [ltOf_bef]; simp
  trans x y z h1 h2 := by rw [ltOf_bef, decide_eq_true_eq] at *; omega
  ntrans x y z h1 h2 := by rw [ltOf_bef, decide_eq_false_iff_not] at *; omega
theorem kept_sort {α : Type} [Inhabited α] {w : World} {g : Nat} (enc : α → Value) (m : Nat) (d : Array α) (os : Array Obj) {b o : Nat} {v : Value} (hb : b ≠ g) (h : w.cell? ⟨b, o, none⟩ = some v) : (sortWorld enc w g 0 m d os).cell? ⟨b, o, none⟩ = some v := by
  have hg := grown_putRow (w := w) (g := g) enc 0 m d os
  have hlt : b < w.heap.size := lt_of_cell h
  rw [show sortWorld enc w g 0 m d os = grow (putRow enc (Sort.ahead w m) g 0 d) os from rfl]
  rw [World.cell?_of_block (hg.block b hlt (fun e => hb (by injection e)))]
  exact h
theorem sortRings_any {w : World} {B g n cap : Nat} {τ : Type} (pr : τ → SlP) {zs : List τ} (h : ptsE.Own w B (.slice (some ⟨g, 0, none⟩) n cap) (zs.map fun x => (pr x).1)) (hn : zs.length = n) (h0 : 0 < n) (hb : n ≤ 100000000) (hf : ∀ x ∈ zs, FirstIs w g (pr x)) :
    Calls Try.prog 71 #[.slice (some ⟨g, 0, none⟩) n cap, .func (.func 72) #[] #[]] w fun e w' =>
      e = .returned (.tuple #[]) ∧ ∃ zs' : List τ, zs'.Perm zs ∧ zs'.Pairwise (fun a b => ¬ ((pr b).2.2 < (pr a).2.2 ∨ (pr b).2.2 = (pr a).2.2 ∧ (pr b).2.1 < (pr a).2.1)) ∧ ptsE.Own w' B (.slice (some ⟨g, 0, none⟩) n cap) (zs'.map fun x => (pr x).1) ∧ w.grownBy w' (some g) := by
  obtain ⟨z0, hz0⟩ : ∃ z, z ∈ zs := by
    cases zs with
    | nil => simp at hn; omega
    | cons z zs => exact ⟨z, List.mem_cons_self⟩
  let α := {x : τ // x ∈ zs}
  letI : Inhabited α := ⟨⟨z0, hz0⟩⟩
  let enc : α → Value := fun x => encP (pr x.1)
  let cf : α → α → Int := fun a b => befS (pr a.1).2 (pr b.1).2
  let l : List α := zs.attach
  have hl : l.length = n := by rw [List.length_attach, hn]
  have hs : l.toArray.size = n := by rw [List.size_toArray, hl]
  have hlv : l.map (fun x => x.1) = zs := List.attach_map_subtype_val zs
  have eg : ∀ args w, (callFunc 72 args).run Try.prog w = .ok (.enter 72 args) w := enters_of Try.func72 (by kernel_rfl) rfl
  have hc1 : OneCell enc := fun x => rfl
  have hcmp : CmpLays1 Try.prog 72 #[] enc cf g 0 l.toArray.size w := fun m os dk _ x y => by
    obtain ⟨b1, o1, e1, n1, p1, k1, k2, k3, k4⟩ := hf x.1 x.2
    obtain ⟨b2, o2, e2, n2, p2, j1, j2, j3, j4⟩ := hf y.1 y.2
    have hx : enc x = .slice (some ⟨b1, o1, none⟩) (pr x.1).1.2.1 (pr x.1).1.2.2 := by show encP (pr x.1) = _; unfold encP; rw [e1]
    have hy : enc y = .slice (some ⟨b2, o2, none⟩) (pr y.1).1.2.1 (pr y.1).1.2.2 := by show encP (pr y.1) = _; unfold encP; rw [e2]
    rw [hx, hy]
    exact (cmpRing_d _ _ _ _ b1 o1 _ _ b2 o2 _ _ _ ⟨k3, k4, j3, j4⟩ p1 p2 (kept_sort enc m dk os n1 k1) (kept_sort enc m dk os n1 k2) (kept_sort enc m dk os n2 j1) (kept_sort enc m dk os n2 j2)).mono fun e w' ⟨q1, q2⟩ => ⟨q1, extD_grow ⟨q2.1, q2.2⟩⟩
  have hH : Holds enc w g 0 l.toArray := fun j hj => by
    have hj' : j < l.length := by simpa using hj
    rw [Nat.zero_add]
    have hz : (zs.map fun x => (pr x).1)[j]? = some (pr (l[j].1)).1 := by
      have e0 := List.getElem?_map (f := fun x : α => x.1) (l := l) (i := j)
      rw [hlv, List.getElem?_eq_getElem hj'] at e0
      rw [List.getElem?_map, e0]
      rfl
    have k1 := h.cell (i := j) (j := 0) hz rfl
    have e1 : ptsE.size = 1 := rfl
    rw [e1, Nat.mul_one, Nat.add_zero] at k1
    refine ⟨?_, h.frozen⟩
    rw [k1, getElem!_pos l.toArray j hj]
    rfl
  have hcon := Any.slices_SortFunc Try.sortRingL enc hc1 cf (swo_bef fun x : α => (pr x.1).2) 72 #[] g 0 cap l.toArray w eg hcmp hH h.lt (by rw [hs]; omega)
  rw [hs] at hcon
  refine Calls.mono hcon ?_
  rintro e w' ⟨rfl, d', m, os, hp, hso, rfl⟩
  obtain ⟨hsz, _, hperm⟩ := hp
  rw [hs] at hsz
  have hperm' : d'.toList.Perm l := by
    have e1 : d'.extract 0 n = d' := by rw [← hsz]; simp
    have e2 : l.toArray.extract 0 n = l.toArray := by rw [← hs]; simp
    rw [e1, e2] at hperm
    simpa using hperm
  refine ⟨rfl, d'.toList.map (fun x => x.1), ?_, ?_, ?_, grown_putRow _ _ _ _ _⟩
  · have := hperm'.map (fun x => x.1)
    rwa [hlv] at this
  · rw [List.pairwise_map, List.pairwise_iff_getElem]
    intro i j hi hj hij
    simp only [Array.length_toList] at hi hj
    have := hso i j (Nat.zero_le _) hij (by omega)
    rw [ltOf_bef, getElem!_pos d' i hi, getElem!_pos d' j hj, decide_eq_false_iff_not] at this
    simpa using this
  · refine EL.Own.ext ?_ (ext_grow _ os)
    obtain ⟨cur, hl2, hbg, hg, hcap, hm, hsz2, hc⟩ := h.opened
    refine EL.Own.mk (cur := putCells enc 0 d' cur) (by simp [hsz]) hbg ?_ hcap hm (by rw [← hsz2]; simp [putCells]) fun j v hv => ?_
    · unfold Box at hg ⊢
      show (w.heap.modify g _)[g]? = _
      rw [Array.getElem?_modify, if_pos rfl, hg]
      rfl
    · rw [ptsE_cells, List.map_map, List.map_map, List.getElem?_map] at hv
      obtain ⟨y, hy⟩ : ∃ y, d'.toList[j]? = some y := by
        cases hq : d'.toList[j]? with
        | none => rw [hq] at hv; cases hv
        | some y => exact ⟨y, rfl⟩
      rw [hy] at hv
      have hj := (List.getElem?_eq_some_iff.1 hy).1
      rw [Array.length_toList] at hj
      have hjc : j < cur.size := by rw [hsz2]; simp [ptsE]; omega
      unfold putCells
      rw [Array.getElem?_mapIdx, Array.getElem?_eq_getElem hjc]
      simp only [Option.map_some]
      rw [if_pos ⟨Nat.zero_le _, by omega⟩, Nat.sub_zero, getElem!_pos d' j hj]
      rw [← hv]
      rw [Array.getElem?_toList, Array.getElem?_eq_getElem hj] at hy
      injection hy with hy
      rw [hy]
      rfl
theorem sortNone_any (A : Option Addr) (c : Nat) (w : World) : Calls Try.prog 71 #[.slice A 0 c, .func (.func 72) #[] #[]] w fun e w' => e = .returned (.tuple #[]) ∧ w' = w :=
  AnyF.slices_SortFunc_none { Try.sortRingL with } A c _ w
end Go.Proofs.Ytkjpcjmbhpfelaa
