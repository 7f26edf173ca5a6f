/- slices.SortFunc at runs, by their begin, off the kit's shelf. -/
import Derived.Test.YtkjpcjmbhpfelaaRgSortI
import Derived.Shelf.SlSortCmp.WholeK
import Derived.Shelf.SlSortCmp.NoneTotal
import Derived.Ground.SlsfProg
set_option linter.unusedVariables false
set_option linter.unusedSimpArgs false
namespace Go.Proofs
open Go.Shelf Go.Lib
def Try.sortRunL_ren : Go.Shelf.Ren := ⟨fun | 6 => 90 | 15 => 83 | 14 => 121 | 28 => 107 | 29 => 108 | 20 => 135 | 21 => 136 | 22 => 137 | 23 => 138 | 24 => 139 | 25 => 140 | 26 => 141 | 27 => 142 | 46 => 146 | 47 => 127 | 48 => 128 | 49 => 147 | 50 => 148 | 57 => 150 | n => n, fun | 22 => 86 | 24 => 93 | 25 => 109 | 3 => 3 | 39 => 98 | 0 => 0 | 53 => 125 | 55 => 127 | 4 => 4 | 46 => 117 | 45 => 116 | 50 => 122 | 5 => 5 | 9 => 9 | 66 => 142 | 70 => 146 | 76 => 156 | 77 => 157 | n => n, fun | n => n⟩
theorem Try.sortRunL : Go.Proofs.SlLaysF0.n6 Try.prog Try.sortRunL_ren := {
  mixed := by kernel_rfl
  f6 := ⟨Try.f90.name, by decide, Try.func90.trans (congrArg some (by kernel_rfl))⟩
  f14 := ⟨Try.f121.name, by decide, Try.func121.trans (congrArg some (by kernel_rfl))⟩
  f15 := Try.func83.trans (congrArg some (by kernel_rfl))
  f20 := ⟨Try.f135.name, by decide, Try.func135.trans (congrArg some (by kernel_rfl))⟩
  f21 := ⟨Try.f136.name, by decide, Try.func136.trans (congrArg some (by kernel_rfl))⟩
  f22 := ⟨Try.f137.name, by decide, Try.func137.trans (congrArg some (by kernel_rfl))⟩
  f23 := ⟨Try.f138.name, by decide, Try.func138.trans (congrArg some (by kernel_rfl))⟩
  f24 := ⟨Try.f139.name, by decide, Try.func139.trans (congrArg some (by kernel_rfl))⟩
  f25 := ⟨Try.f140.name, by decide, Try.func140.trans (congrArg some (by kernel_rfl))⟩
  f26 := ⟨Try.f141.name, by decide, Try.func141.trans (congrArg some (by kernel_rfl))⟩
  f27 := ⟨Try.f142.name, by decide, Try.func142.trans (congrArg some (by kernel_rfl))⟩
  f28 := Try.func107.trans (congrArg some (by kernel_rfl))
  f29 := Try.func108.trans (congrArg some (by kernel_rfl))
  f46 := ⟨Try.f146.name, by decide, Try.func146.trans (congrArg some (by kernel_rfl))⟩
  f47 := Try.func127.trans (congrArg some (by kernel_rfl))
  f48 := Try.func128.trans (congrArg some (by kernel_rfl))
  f49 := ⟨Try.f147.name, by decide, Try.func147.trans (congrArg some (by kernel_rfl))⟩
  f50 := ⟨Try.f148.name, by decide, Try.func148.trans (congrArg some (by kernel_rfl))⟩
  f57 := ⟨Try.f150.name, by decide, Try.func150.trans (congrArg some (by kernel_rfl))⟩
  t0 := Try.underlying0
  a0 := Try.isAgg0
  z0 := Try.sizeOf0
  v0 := Try.zeroValue0
  t3 := Try.underlying3
  a3 := Try.isAgg3
  z3 := Try.sizeOf3
  v3 := Try.zeroValue3
  t4 := Try.underlying4
  a4 := Try.isAgg4
  z4 := Try.sizeOf4
  v4 := Try.zeroValue4
  t5 := Try.underlying5
  a5 := Try.isAgg5
  z5 := Try.sizeOf5
  v5 := Try.zeroValue5
  t9 := Try.underlying9
  a9 := Try.isAgg9
  z9 := Try.sizeOf9
  v9 := Try.zeroValue9
  t22 := Try.underlying86
  a22 := Try.isAgg86
  z22 := Try.sizeOf86
  v22 := Try.zeroValue86
  t25 := Try.underlying109
  a25 := Try.isAgg109
  z25 := Try.sizeOf109
  v25 := Try.zeroValue109
  t39 := Try.underlying98
  a39 := Try.isAgg98
  z39 := Try.sizeOf98
  v39 := Try.zeroValue98
  t45 := Try.underlying116
  a45 := Try.isAgg116
  z45 := Try.sizeOf116
  v45 := Try.zeroValue116
  t46 := Try.underlying117
  a46 := Try.isAgg117
  z46 := Try.sizeOf117
  v46 := Try.zeroValue117
  t50 := Try.underlying122
  a50 := Try.isAgg122
  z50 := Try.sizeOf122
  v50 := Try.zeroValue122
  t53 := Try.underlying125
  a53 := Try.isAgg125
  z53 := Try.sizeOf125
  v53 := Try.zeroValue125
  t55 := Try.underlying127
  a55 := Try.isAgg127
  z55 := Try.sizeOf127
  v55 := Try.zeroValue127
  t66 := Try.underlying142
  a66 := Try.isAgg142
  z66 := Try.sizeOf142
  v66 := Try.zeroValue142
  t70 := Try.underlying146
  a70 := Try.isAgg146
  z70 := Try.sizeOf146
  v70 := Try.zeroValue146
  t76 := Try.underlying156
  a76 := Try.isAgg156
  z76 := Try.sizeOf156
  v76 := Try.zeroValue156
  t77 := Try.underlying157
  a77 := Try.isAgg157
  z77 := Try.sizeOf157
  v77 := Try.zeroValue157 }
end Go.Proofs
namespace Go.Par
open Go.RowKit Go.Sort Go.Lib
section
variable {P : Program} {α : Type} [Inhabited α] {E : EL P α} {w : World} {B g n cap : Nat} {l : List α}
theorem EL.flat_cell {d : Array α} {j : Nat} (hj : j < d.size * E.size) : (E.cells d.toList)[j]? = some ((flatK E.enc E.size d)[j]!) := by
  have hp := E.pos
  have hi : j / E.size < d.size := Nat.div_lt_of_lt_mul (by rw [Nat.mul_comm]; exact hj)
  have hr := Nat.mod_lt j hp
  have e1 := get_flatK E.enc E.size d j hj
  have e2 : d[j / E.size]! = d[j / E.size] := getElem!_pos d _ hi
  rw [e1, e2]
  have hx : d.toList[j / E.size]? = some d[j / E.size] := by rw [Array.getElem?_toList, Array.getElem?_eq_getElem hi]
  have hv : (E.enc d[j / E.size])[j % E.size]? = some ((E.enc d[j / E.size])[j % E.size]!) := by
    have : j % E.size < (E.enc d[j / E.size]).length := by rw [E.len]; exact hr
    rw [List.getElem?_eq_getElem this, getElem!_pos (E.enc d[j / E.size]) (j % E.size) this]
  have := E.cells_at hx hv
  rwa [Nat.div_add_mod' j E.size] at this
theorem EL.Own.holdsK (h : E.Own w B (.slice (some ⟨g, 0, none⟩) n cap) l) : HoldsK E.enc E.size w g 0 l.toArray := fun j hj => by
  rw [size_flatK, List.size_toArray] at hj
  rw [Nat.zero_add]
  obtain ⟨cur, hl, hb, hg, hcap, hm, hs, hc⟩ := h.opened
  refine ⟨?_, hg.frozen j⟩
  rw [hg.cell]
  exact hc j _ (EL.flat_cell (d := l.toArray) (by simpa using hj))
theorem EL.Own.putK (h : E.Own w B (.slice (some ⟨g, 0, none⟩) n cap) l) (d : Array α) (hd : d.size = n) (m : Nat) : E.Own (putRowK E.enc E.size (Sort.ahead w m) g 0 d) B (.slice (some ⟨g, 0, none⟩) n cap) d.toList := by
  obtain ⟨cur, hl, hb, hg, hcap, hm, hs, hc⟩ := h.opened
  refine EL.Own.mk (cur := putCells id 0 (flatK E.enc E.size d) cur) (by simp [hd]) hb ?_ hcap hm (by rw [← hs]; simp [putCells]) fun j v hv => ?_
  · unfold Box at hg ⊢
    show (w.heap.modify g _)[g]? = _
    rw [Array.getElem?_modify, if_pos rfl, hg]
    rfl
  · have hj := (List.getElem?_eq_some_iff.1 hv).1
    rw [E.cells_length, Array.length_toList] at hj
    have hfl := EL.flat_cell (E := E) hj
    rw [hv] at hfl
    injection hfl with hfl
    have hjc : j < cur.size := by
      rw [hs]
      have : d.size * E.size ≤ cap * E.size := Nat.mul_le_mul_right _ (by omega)
      omega
    unfold putCells
    rw [Array.getElem?_mapIdx, Array.getElem?_eq_getElem hjc]
    simp only [Option.map_some]
    rw [if_pos ⟨Nat.zero_le _, by rw [size_flatK]; omega⟩, Nat.sub_zero, ← hfl]
    rfl
end
theorem ext_grow (W : World) (os : Array Obj) : Ext W (grow W os) :=
  ⟨rfl, rfl, rfl, by simp [grow], fun k hk => by simp [grow, Array.getElem?_append_left hk]⟩
theorem grown_putRowK {α : Type} [Inhabited α] {w : World} {g : Nat} (enc : α → List Value) (k off m : Nat) (d : Array α) (os : Array Obj) : w.grownBy (grow (putRowK enc k (Sort.ahead w m) g off d) os) (some g) := by
  have h := ext_grow (putRowK enc k (Sort.ahead w m) g off d) os
  have hs : (putRowK enc k (Sort.ahead w m) g off d).heap.size = w.heap.size := by show (w.heap.modify g _).size = _; rw [Array.size_modify]
  refine ⟨rfl, rfl, rfl, by have := h.size; omega, fun k hk hne => ?_⟩
  rw [Below.block h k (by omega)]
  show (w.heap.modify g _)[k]? = _
  rw [Array.getElem?_modify, if_neg (fun e => hne (by rw [e]))]
/-- all that was there is as it was; no draw is taken back -/
def ExtD (w w' : World) : Prop := Ext w w' ∧ w.drawn ≤ w'.drawn
theorem extD_grow {w w' : World} (h : ExtD w w') : ∃ q os, w' = grow (w.drewN q) os := by
  obtain ⟨h, hd⟩ := h
  refine ⟨w'.drawn - w.drawn, w'.heap.extract w.heap.size w'.heap.size, ?_⟩
  have hh : w'.heap = w.heap ++ w'.heap.extract w.heap.size w'.heap.size := by
    apply Array.ext_getElem?
    intro i
    have hs := h.size
    by_cases hi : i < w.heap.size
    · rw [Array.getElem?_append_left hi]
      exact Below.block h i hi
    · rw [Array.getElem?_append_right (by omega), Array.getElem?_extract]
      by_cases hi2 : i < w'.heap.size
      · rw [if_pos (by omega)]
        congr 1
        omega
      · rw [if_neg (by omega), Array.getElem?_eq_none (by omega)]
  have e1 := Below.os h
  have e2 := Below.tape h
  have e3 := Below.output h
  cases w with
  | mk heap tape drawn os output =>
    cases w' with
    | mk heap' tape' drawn' os' output' =>
      simp only at e1 e2 e3 hh hd
      subst e1 e2 e3
      unfold grow World.drewN
      simp only [World.mk.injEq, true_and, and_true]
      exact ⟨hh, by omega⟩
end Go.Par
namespace Go.Proofs.Ytkjpcjmbhpfelaa
open Go.RowKit Go.Par Go.Reg Go.Sort Go.Lib


theorem isNaN_any (n : Int) (w : World) :
    Calls Try.prog 122 #[.int .i64 n] w fun e w' => e = .returned (.bool false) ∧ w = w' := by
  go_enter Try.func122, Try.ntmps122
  go_wp2
  go_ret
  exact ⟨ret_eq (by simp), rfl⟩
def cmpS (a b : Int) : Int := if a < b then -1 else if b < a then 1 else 0
theorem Compare_any (a b : Int) (w : World) :
    Calls Try.prog 92 #[.int .i64 a, .int .i64 b] w fun e w' => e = .returned (.int .i64 (cmpS a b)) ∧ w = w' := by
  go_enter Try.func92, Try.ntmps92
  go_wp2_with fail
  refine (isNaN_any _ _).mono ?_
  rintro e w1 ⟨rfl, rfl⟩
  go_wp2_with fail
  refine (isNaN_any _ _).mono ?_
  rintro e w1 ⟨rfl, rfl⟩
  by_cases h1 : a < b
  · have HR := Lib.hid (show cmpS a b = -1 from by unfold cmpS; rw [if_pos h1])
    have d1 : (a < b) = True := eq_true h1
    clear h1
    go_wp2
    go_ret
    exact ⟨ret_eq (by rw [HR.out]; rfl), rfl⟩
  · have d1 : (a < b) = False := eq_false h1
    by_cases h2 : b < a
    · have HR := Lib.hid (show cmpS a b = 1 from by unfold cmpS; rw [if_neg h1, if_pos h2])
      have d2 : (b < a) = True := eq_true h2
      clear h1 h2
      go_wp2
      go_ret
      exact ⟨ret_eq (by rw [HR.out]; rfl), rfl⟩
    · have HR := Lib.hid (show cmpS a b = 0 from by unfold cmpS; rw [if_neg h1, if_neg h2])
      have d2 : (b < a) = False := eq_false h2
      clear h1 h2
      go_wp2
      go_ret
      exact ⟨ret_eq (by rw [HR.out]; rfl), rfl⟩
set_option maxHeartbeats 800000 in
theorem runCmp_any (a b c d : Int) (w : World) :
    Calls Try.prog 91 #[.agg #[.int .i64 a, .int .i64 b], .agg #[.int .i64 c, .int .i64 d]] w fun e w' => e = .returned (.int .i64 (cmpS a c)) ∧ ExtD w w' := by
  have H := Lib.hid (fun W => Compare_any a c W)
  go_enter Try.func91, Try.ntmps91
  go_wp2_with fail
  refine (H.out _).mono ?_
  rintro e w1 ⟨rfl, rfl⟩
  go_wp2
  go_ret
  exact ⟨rfl, (Ext.alloc _ _).trans (Ext.alloc _ _), Nat.le_refl _⟩
theorem aggRun (w : World) : (isAgg 93).run Try.prog w = .ok true w := by kernel_rfl
theorem sizeRun (w : World) : (Go.sizeOf 93).run Try.prog w = .ok 2 w := by kernel_rfl
def cmpR (a b : Run) : Int := cmpS a.1 b.1
theorem ltOf_cmpR (a b : Run) : ltOf cmpR a b = decide (a.1 < b.1) := by
  unfold ltOf cmpR cmpS
  by_cases h1 : a.1 < b.1
  · simp [h1]
  · by_cases h2 : b.1 < a.1 <;> simp [h1, h2]
theorem swo_cmpR : SWO (ltOf cmpR) where
  irrefl x := by rw [ltOf_cmpR]; simp
  trans x y z h1 h2 := by rw [ltOf_cmpR, decide_eq_true_eq] at *; omega
  ntrans x y z h1 h2 := by rw [ltOf_cmpR, decide_eq_false_iff_not] at *; omega
theorem cmpR_lays (blk off size : Nat) (w : World) : CmpLays Try.prog 91 #[] runE.enc 2 cmpR blk off size w :=
  fun m os dk _ x y => (runCmp_any x.1 x.2 y.1 y.2 _).mono fun e w' ⟨h1, h2⟩ => ⟨h1, extD_grow h2⟩
theorem sortRun_any {w : World} {B : Nat} {v : Value} {l : List Run} (h : runE.Own w B v l) (hn : l.length ≤ 10000000) :
    Calls Try.prog 90 #[v, .func (.func 91) #[] #[]] w fun e w' =>
      e = .returned (.tuple #[]) ∧ ∃ l', l'.Perm l ∧ l'.Pairwise (fun a b => a.1 ≤ b.1) ∧ runE.Own w' B v l' ∧ w.grownBy w' v.ownBlock := by
  rcases Nat.eq_zero_or_pos l.length with h0 | h0
  · have e : l = [] := List.eq_nil_of_length_eq_zero h0
    subst e
    obtain ⟨A, c, rfl, _, _⟩ := h.len
    refine (AnyF.slices_SortFunc_none Try.sortRunL A c _ w).mono fun e w' ⟨h1, h2⟩ => ?_
    subst h2
    exact ⟨h1, [], List.Perm.refl _, List.Pairwise.nil, h, ⟨rfl, rfl, rfl, Nat.le_refl _, fun _ _ _ => rfl⟩⟩
  · obtain ⟨g, cap, rfl, hb, hcap⟩ := h.head h0
    have hs : l.toArray.size = l.length := List.size_toArray ..
    have eg : ∀ args w, (callFunc 91 args).run Try.prog w = .ok (.enter 91 args) w := enters_of Try.func91 (by kernel_rfl) rfl
    have hcon := AnyQ.slices_SortFunc Try.sortRunL 2 aggRun sizeRun runE.enc runE.len runE.one cmpR swo_cmpR 91 #[] g 0 cap l.toArray w eg (cmpR_lays g 0 _ w) h.holdsK h.lt (by rw [hs]; omega)
    rw [hs] at hcon
    refine Calls.mono hcon ?_
    rintro e w' ⟨rfl, d', m, os, hp, hso, rfl⟩
    obtain ⟨hsz, _, hperm⟩ := hp
    rw [hs] at hsz
    refine ⟨rfl, d'.toList, ?_, ?_, (h.putK d' hsz m).ext (Go.Par.ext_grow _ os), grown_putRowK _ _ _ _ _ _⟩
    · have e1 : d'.extract 0 l.length = d' := by rw [← hsz]; simp
      have e2 : l.toArray.extract 0 l.length = l.toArray := by rw [← hs]; simp
      rw [e1, e2] at hperm
      simpa using hperm
    · rw [List.pairwise_iff_getElem]
      intro i j hi hj hij
      simp only [Array.length_toList] at hi hj
      have := hso i j (Nat.zero_le _) hij (by omega)
      rw [ltOf_cmpR, getElem!_pos d' i hi, getElem!_pos d' j hj, decide_eq_false_iff_not] at this
      simpa using this
end Go.Proofs.Ytkjpcjmbhpfelaa
