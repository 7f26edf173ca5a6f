/- Texts put together: TyB, TyC. -/
import Derived.Test.YtodefmfgoehkhaaGreatZP
import Derived.Shelf.SlSortCmp.WholeK
import Derived.Ground.SlsfProg
/- slices.SortFunc at rationals, off the kit's shelf. -/
set_option linter.unusedVariables false
set_option linter.unusedSimpArgs false
namespace Go.Proofs
open Go.Shelf Go.Lib
def Tryz.sortRatL_ren : Go.Shelf.Ren := ⟨fun | 6 => 106 | 15 => 119 | 14 => 118 | 28 => 110 | 29 => 132 | 20 => 124 | 21 => 125 | 22 => 126 | 23 => 127 | 24 => 128 | 25 => 129 | 26 => 130 | 27 => 131 | 46 => 135 | 47 => 136 | 48 => 137 | 49 => 138 | 50 => 139 | 57 => 142 | n => n, fun | 22 => 81 | 24 => 29 | 25 => 43 | 3 => 3 | 39 => 57 | 0 => 0 | 53 => 93 | 55 => 85 | 4 => 4 | 46 => 173 | 45 => 172 | 50 => 69 | 5 => 5 | 9 => 9 | 66 => 179 | 70 => 183 | 76 => 185 | 77 => 186 | n => n, fun | n => n⟩
theorem Tryz.sortRatL : Go.Proofs.SlLaysF0.n6 Tryz.prog Tryz.sortRatL_ren := {
  mixed := by kernel_rfl
  f6 := ⟨Tryz.f106.name, by decide, Tryz.func106.trans (congrArg some (by kernel_rfl))⟩
  f14 := ⟨Tryz.f118.name, by decide, Tryz.func118.trans (congrArg some (by kernel_rfl))⟩
  f15 := Tryz.func119.trans (congrArg some (by kernel_rfl))
  f20 := ⟨Tryz.f124.name, by decide, Tryz.func124.trans (congrArg some (by kernel_rfl))⟩
  f21 := ⟨Tryz.f125.name, by decide, Tryz.func125.trans (congrArg some (by kernel_rfl))⟩
  f22 := ⟨Tryz.f126.name, by decide, Tryz.func126.trans (congrArg some (by kernel_rfl))⟩
  f23 := ⟨Tryz.f127.name, by decide, Tryz.func127.trans (congrArg some (by kernel_rfl))⟩
  f24 := ⟨Tryz.f128.name, by decide, Tryz.func128.trans (congrArg some (by kernel_rfl))⟩
  f25 := ⟨Tryz.f129.name, by decide, Tryz.func129.trans (congrArg some (by kernel_rfl))⟩
  f26 := ⟨Tryz.f130.name, by decide, Tryz.func130.trans (congrArg some (by kernel_rfl))⟩
  f27 := ⟨Tryz.f131.name, by decide, Tryz.func131.trans (congrArg some (by kernel_rfl))⟩
  f28 := Tryz.func110.trans (congrArg some (by kernel_rfl))
  f29 := Tryz.func132.trans (congrArg some (by kernel_rfl))
  f46 := ⟨Tryz.f135.name, by decide, Tryz.func135.trans (congrArg some (by kernel_rfl))⟩
  f47 := Tryz.func136.trans (congrArg some (by kernel_rfl))
  f48 := Tryz.func137.trans (congrArg some (by kernel_rfl))
  f49 := ⟨Tryz.f138.name, by decide, Tryz.func138.trans (congrArg some (by kernel_rfl))⟩
  f50 := ⟨Tryz.f139.name, by decide, Tryz.func139.trans (congrArg some (by kernel_rfl))⟩
  f57 := ⟨Tryz.f142.name, by decide, Tryz.func142.trans (congrArg some (by kernel_rfl))⟩
  t0 := Tryz.underlying0
  a0 := Tryz.isAgg0
  z0 := Tryz.sizeOf0
  v0 := Tryz.zeroValue0
  t3 := Tryz.underlying3
  a3 := Tryz.isAgg3
  z3 := Tryz.sizeOf3
  v3 := Tryz.zeroValue3
  t4 := Tryz.underlying4
  a4 := Tryz.isAgg4
  z4 := Tryz.sizeOf4
  v4 := Tryz.zeroValue4
  t5 := Tryz.underlying5
  a5 := Tryz.isAgg5
  z5 := Tryz.sizeOf5
  v5 := Tryz.zeroValue5
  t9 := Tryz.underlying9
  a9 := Tryz.isAgg9
  z9 := Tryz.sizeOf9
  v9 := Tryz.zeroValue9
  t22 := Tryz.underlying81
  a22 := Tryz.isAgg81
  z22 := Tryz.sizeOf81
  v22 := Tryz.zeroValue81
  t25 := Tryz.underlying43
  a25 := Tryz.isAgg43
  z25 := Tryz.sizeOf43
  v25 := Tryz.zeroValue43
  t39 := Tryz.underlying57
  a39 := Tryz.isAgg57
  z39 := Tryz.sizeOf57
  v39 := Tryz.zeroValue57
  t45 := Tryz.underlying172
  a45 := Tryz.isAgg172
  z45 := Tryz.sizeOf172
  v45 := Tryz.zeroValue172
  t46 := Tryz.underlying173
  a46 := Tryz.isAgg173
  z46 := Tryz.sizeOf173
  v46 := Tryz.zeroValue173
  t50 := Tryz.underlying69
  a50 := Tryz.isAgg69
  z50 := Tryz.sizeOf69
  v50 := Tryz.zeroValue69
  t53 := Tryz.underlying93
  a53 := Tryz.isAgg93
  z53 := Tryz.sizeOf93
  v53 := Tryz.zeroValue93
  t55 := Tryz.underlying85
  a55 := Tryz.isAgg85
  z55 := Tryz.sizeOf85
  v55 := Tryz.zeroValue85
  t66 := Tryz.underlying179
  a66 := Tryz.isAgg179
  z66 := Tryz.sizeOf179
  v66 := Tryz.zeroValue179
  t70 := Tryz.underlying183
  a70 := Tryz.isAgg183
  z70 := Tryz.sizeOf183
  v70 := Tryz.zeroValue183
  t76 := Tryz.underlying185
  a76 := Tryz.isAgg185
  z76 := Tryz.sizeOf185
  v76 := Tryz.zeroValue185
  t77 := Tryz.underlying186
  a77 := Tryz.isAgg186
  z77 := Tryz.sizeOf186
  v77 := Tryz.zeroValue186 }
end Go.Proofs
namespace Go.Par
open Go.RowKit Go.Sort Go.Lib
section
variable {P : Program} {α : Type} [Inhabited α] {E : EL P α} {w : World} {B g n cap : Nat} {l : List α}
theorem EL.flat_cell {d : Array α} {j : Nat} (hj : j < d.size * E.size) : (E.cells d.toList)[j]? = some ((flatK E.enc E.size d)[j]!) := by
  have hp := E.pos
  have hi : j / E.size < d.size := Nat.div_lt_of_lt_mul (by rw [Nat.mul_comm]; exact hj)
  have hr := Nat.mod_lt j hp
  have e1 := get_flatK E.enc E.size d j hj
  have e2 : d[j / E.size]! = d[j / E.size] := getElem!_pos d _ hi
  rw [e1, e2]
  have hx : d.toList[j / E.size]? = some d[j / E.size] := by rw [Array.getElem?_toList, Array.getElem?_eq_getElem hi]
  have hv : (E.enc d[j / E.size])[j % E.size]? = some ((E.enc d[j / E.size])[j % E.size]!) := by
    have : j % E.size < (E.enc d[j / E.size]).length := by rw [E.len]; exact hr
    rw [List.getElem?_eq_getElem this, getElem!_pos (E.enc d[j / E.size]) (j % E.size) this]
  have := E.cells_at hx hv
  rwa [Nat.div_add_mod' j E.size] at this
theorem EL.Own.holdsK (h : E.Own w B (.slice (some ⟨g, 0, none⟩) n cap) l) : HoldsK E.enc E.size w g 0 l.toArray := fun j hj => by
  rw [size_flatK, List.size_toArray] at hj
  rw [Nat.zero_add]
  obtain ⟨cur, hl, hb, hg, hcap, hm, hs, hc⟩ := h.opened
  refine ⟨?_, hg.frozen j⟩
  rw [hg.cell]
  exact hc j _ (EL.flat_cell (d := l.toArray) (by simpa using hj))
theorem EL.Own.putK (h : E.Own w B (.slice (some ⟨g, 0, none⟩) n cap) l) (d : Array α) (hd : d.size = n) (m : Nat) : E.Own (putRowK E.enc E.size (Sort.ahead w m) g 0 d) B (.slice (some ⟨g, 0, none⟩) n cap) d.toList := by
  obtain ⟨cur, hl, hb, hg, hcap, hm, hs, hc⟩ := h.opened
  refine EL.Own.mk (cur := putCells id 0 (flatK E.enc E.size d) cur) (by simp [hd]) hb ?_ hcap hm (by rw [← hs]; simp [putCells]) fun j v hv => ?_
  · unfold Box at hg ⊢
    show (w.heap.modify g _)[g]? = _
    rw [Array.getElem?_modify, if_pos rfl, hg]
    rfl
  · have hj := (List.getElem?_eq_some_iff.1 hv).1
    rw [E.cells_length, Array.length_toList] at hj
    have hfl := EL.flat_cell (E := E) hj
    rw [hv] at hfl
    injection hfl with hfl
    have hjc : j < cur.size := by
      rw [hs]
      have : d.size * E.size ≤ cap * E.size := Nat.mul_le_mul_right _ (by omega)
      omega
    unfold putCells
    rw [Array.getElem?_mapIdx, Array.getElem?_eq_getElem hjc]
    simp only [Option.map_some]
    rw [if_pos ⟨Nat.zero_le _, by rw [size_flatK]; omega⟩, Nat.sub_zero, ← hfl]
    rfl
end

/-- elements of which something is known -/
def EL.sub {P : Program} {α : Type} (E : EL P α) (p : α → Prop) : EL P {x // p x} where
  enc := fun x => E.enc x.1
  size := E.size
  t := E.t
  st := E.st
  zero := E.zero
  bytes := E.bytes
  len := fun x => E.len x.1
  one := fun x => E.one x.1
  pos := E.pos
  und := E.und
  info := E.info
  zsize := E.zsize
  small := E.small
theorem EL.sub_cells {P : Program} {α : Type} (E : EL P α) (p : α → Prop) (m : List {x // p x}) : (E.sub p).cells m = E.cells (m.map (·.1)) := by
  induction m with
  | nil => rfl
  | cons x m ih => rw [EL.cells_cons, List.map_cons, EL.cells_cons, ih]; rfl
theorem EL.sub_own {P : Program} {α : Type} (E : EL P α) (p : α → Prop) (m : List {x // p x}) (w : World) (B : Nat) (v : Value) : (E.sub p).Own w B v m ↔ E.Own w B v (m.map (·.1)) := by
  unfold EL.Own
  rw [EL.sub_cells, List.length_map]
  rfl
theorem ext_grow (W : World) (os : Array Obj) : Ext W (grow W os) :=
  ⟨⟨rfl, rfl, rfl, by simp [grow], fun k hk => by simp [grow, Array.getElem?_append_left hk]⟩, Nat.le_refl _⟩
theorem grown_putRowK {α : Type} [Inhabited α] {w : World} {g : Nat} (enc : α → List Value) (k off m : Nat) (d : Array α) (os : Array Obj) : Grown w (grow (putRowK enc k (Sort.ahead w m) g off d) os) (some g) := by
  have h := ext_grow (putRowK enc k (Sort.ahead w m) g off d) os
  have hs : (putRowK enc k (Sort.ahead w m) g off d).heap.size = w.heap.size := by show (w.heap.modify g _).size = _; rw [Array.size_modify]
  refine ⟨⟨rfl, rfl, rfl, by have := h.size; omega, fun k hk hne => ?_⟩, Nat.le_add_right _ _⟩
  rw [Below.block h.1 k (by omega)]
  show (w.heap.modify g _)[k]? = _
  rw [Array.getElem?_modify, if_neg (fun e => hne (by rw [e]))]
theorem ext_to_grow {w w' : World} (h : Ext w w') : ∃ q os, w' = grow (w.drewN q) os := by
  obtain ⟨h, hd⟩ := h
  refine ⟨w'.drawn - w.drawn, w'.heap.extract w.heap.size w'.heap.size, ?_⟩
  have hh : w'.heap = w.heap ++ w'.heap.extract w.heap.size w'.heap.size := by
    apply Array.ext_getElem?
    intro i
    have hs := h.size
    by_cases hi : i < w.heap.size
    · rw [Array.getElem?_append_left hi]
      exact Below.block h i hi
    · rw [Array.getElem?_append_right (by omega), Array.getElem?_extract]
      by_cases hi2 : i < w'.heap.size
      · rw [if_pos (by omega)]
        congr 1
        omega
      · rw [if_neg (by omega), Array.getElem?_eq_none (by omega)]
  have e1 := Below.os h
  have e2 := Below.tape h
  have e3 := Below.output h
  cases w with
  | mk heap tape drawn os output =>
    cases w' with
    | mk heap' tape' drawn' os' output' =>
      simp only at e1 e2 e3 hh hd
      subst e1 e2 e3
      unfold grow World.drewN
      simp only [World.mk.injEq, true_and, and_true]
      exact ⟨hh, by omega⟩
end Go.Par
namespace Go.Proofs.YtodefmfgoehkhaaGreat
open Go.RowKit Go.Par Go.Sort Go.Lib Go.TN

theorem isNaN_any (n : Int) (w : World) :
    Calls Tryz.prog 114 #[.int .i64 n] w fun e w' => e = .returned (.bool false) ∧ w = w' := by
  go_enter Tryz.func114, Tryz.ntmps114
  go_wp2
  go_ret
  exact ⟨ret_eq (by simp), rfl⟩
def cmpJ (a b : Int) : Int := if a < b then -1 else if b < a then 1 else 0
theorem Compare_any (a b : Int) (w : World) :
    Calls Tryz.prog 97 #[.int .i64 a, .int .i64 b] w fun e w' => e = .returned (.int .i64 (cmpJ a b)) ∧ w = w' := by
  go_enter Tryz.func97, Tryz.ntmps97
  go_wp2_with fail
  refine (isNaN_any _ _).mono ?_
  rintro e w1 ⟨rfl, rfl⟩
  go_wp2_with fail
  refine (isNaN_any _ _).mono ?_
  rintro e w1 ⟨rfl, rfl⟩
  by_cases h1 : a < b
  · have HR := Lib.hid (show cmpJ a b = -1 from by unfold cmpJ; rw [if_pos h1])
    have d1 : (a < b) = True := eq_true h1
    clear h1
    go_wp2
    go_ret
    exact ⟨ret_eq (by rw [HR.out]; rfl), rfl⟩
  · have d1 : (a < b) = False := eq_false h1
    by_cases h2 : b < a
    · have HR := Lib.hid (show cmpJ a b = 1 from by unfold cmpJ; rw [if_neg h1, if_pos h2])
      have d2 : (b < a) = True := eq_true h2
      clear h1 h2
      go_wp2
      go_ret
      exact ⟨ret_eq (by rw [HR.out]; rfl), rfl⟩
    · have HR := Lib.hid (show cmpJ a b = 0 from by unfold cmpJ; rw [if_neg h1, if_neg h2])
      have d2 : (b < a) = False := eq_false h2
      clear h1 h2
      go_wp2
      go_ret
      exact ⟨ret_eq (by rw [HR.out]; rfl), rfl⟩

theorem aggRat (w : World) : (isAgg 29).run Tryz.prog w = .ok true w := by kernel_rfl
theorem sizeRat (w : World) : (Go.sizeOf 29).run Tryz.prog w = .ok 4 w := by kernel_rfl
theorem ltOf_cmpQ (a b : Rat) : (cmpQ a b < 0) ↔ a < b := cmpQ_neg
theorem swo_q {α : Type} (f : α → Rat) : SWO (ltOf fun a b => cmpQ (f a) (f b)) := by
  have e : ∀ x y, ltOf (fun a b => cmpQ (f a) (f b)) x y = decide (f x < f y) := fun x y => by
    unfold ltOf
    rw [decide_eq_decide]
    exact cmpQ_neg
  refine ⟨fun x => ?_, fun x y z h1 h2 => ?_, fun x y z h1 h2 => ?_⟩
  · rw [e]; simp
  · rw [e, decide_eq_true_eq] at *; grind
  · rw [e, decide_eq_false_iff_not] at *; grind
/-- a row put anew keeps digits -/
theorem dig_putRow {α : Type} [Inhabited α] {E : EL Tryz.prog α} {w : World} {B g n cap : Nat} {l : List α} (h : OwnC E w B (.slice (some ⟨g, 0, none⟩) n cap) l) (m : Nat) (d : Array α) (os : Array Obj) : DigKeep w (Sort.grow (putRowK E.enc E.size (Sort.ahead w m) g 0 d) os) :=
  DigKeep.grown (row := some g) (grown_putRowK E.enc E.size 0 m d os).1 (fun k e => by cases e; exact h.nod g rfl)
theorem nod_putRow {α : Type} [Inhabited α] {E : EL Tryz.prog α} (hC : Clean E) {w : World} {B g n cap : Nat} {l : List α} (h : OwnC E w B (.slice (some ⟨g, 0, none⟩) n cap) l) (m : Nat) (d : Array α) (os : Array Obj) : NoDig (Sort.grow (putRowK E.enc E.size (Sort.ahead w m) g 0 d) os) g := by
  obtain ⟨cur, hl, hb, hg, hcap, hm, hs, hc⟩ := h.own.opened
  have hB : Box (putRowK E.enc E.size (Sort.ahead w m) g 0 d) g E.t (putCells id 0 (flatK E.enc E.size d) cur) := by
    unfold Box at hg ⊢
    show (w.heap.modify g _)[g]? = _
    rw [Array.getElem?_modify, if_pos rfl, hg]
    rfl
  have hn := h.nod g rfl
  refine NoDig.ext (NoDig.box hB fun i x e => ?_) hB.lt (Go.Par.ext_grow _ os)
  unfold putCells at e
  rw [Array.getElem?_mapIdx] at e
  cases hci : cur[i]? with
  | none => rw [hci] at e; cases e
  | some u =>
    rw [hci] at e
    simp only [Option.map_some, Option.some.injEq] at e
    split at e
    · rename_i hr
      rw [size_flatK] at hr
      have hj : i - 0 < d.size * E.size := by omega
      have hfl := EL.flat_cell (E := E) hj
      rw [show (flatK E.enc E.size d)[i - 0]! = .int .u32 x from e] at hfl
      exact hC.cells d.toList _ (List.mem_of_getElem? hfl) x rfl
    · subst e
      exact hn i x (by rw [hg.cell, hci])
set_option maxHeartbeats 800000 in
theorem sortRat_any {w : World} {B k : Nat} {v : Value} {l : List RQ} (h : OwnC ratE w B v l) (hn : l.length ≤ 10000000) (h0 : 0 < l.length) (hx : ∀ x ∈ l, x.At w ∧ Sz k x.q) (hk : k ≤ 10000000) :
    Calls Tryz.prog 106 #[v, .func (.func 11) #[] #[]] w fun e w' =>
      e = .returned (.tuple #[]) ∧ ∃ l', l'.Perm l ∧ l'.Pairwise (fun a b => a.q ≤ b.q) ∧ OwnC ratE w' B v l' ∧ Grown w w' v.ownBlock ∧ DigKeep w w' := by
  obtain ⟨g, cap, rfl, hb, hcap⟩ := h.own.head h0
  obtain ⟨z0, hz0⟩ : ∃ z, z ∈ l := by
    cases l with
    | nil => simp at h0
    | cons z zs => exact ⟨z, List.mem_cons_self⟩
  letI : Inhabited {x // x ∈ l} := ⟨⟨z0, hz0⟩⟩
  let E : EL Tryz.prog {x // x ∈ l} := ratE.sub (· ∈ l)
  let zs : List {x // x ∈ l} := l.attach
  have hzl : zs.map (fun x => x.1) = l := List.attach_map_subtype_val l
  have hzn : zs.length = l.length := List.length_attach
  have hE : E.Own w B (.slice (some ⟨g, 0, none⟩) l.length cap) zs := (EL.sub_own ratE _ zs w B _).2 (by rw [show (zs.map fun x => x.1) = l from hzl]; exact h.own)
  have hC : Clean E := ⟨fun x => ratE_clean.enc x.1, ratE_clean.zero⟩
  have hO : OwnC E w B (.slice (some ⟨g, 0, none⟩) l.length cap) zs := ⟨hE, h.nod⟩
  have hs : zs.toArray.size = l.length := by rw [List.size_toArray, hzn]
  have eg : ∀ args w, (callFunc 11 args).run Tryz.prog w = .ok (.enter 11 args) w := enters_of Tryz.func11 (by kernel_rfl) rfl
  have hlays : CmpLays Tryz.prog 11 #[] E.enc 4 (fun a b => cmpQ a.1.q b.1.q) g 0 zs.toArray.size w := fun m os dk _ x y => by
    have hd := dig_putRow hO m dk os
    have a1 := (hx x.1 x.2).1.dk hd
    have a2 := (hx y.1 y.2).1.dk hd
    exact (cmpR a1.rv a2.rv (hx x.1 x.2).2 (hx y.1 y.2).2 (by omega)).mono fun e w' ⟨h1, h2⟩ => ⟨h1, ext_to_grow h2⟩
  have hcon := AnyQ.slices_SortFunc Tryz.sortRatL 4 aggRat sizeRat E.enc E.len E.one (fun a b => cmpQ a.1.q b.1.q) (swo_q fun x : {x // x ∈ l} => x.1.q) 11 #[] g 0 cap zs.toArray w eg hlays hE.holdsK hE.lt (by rw [hs]; omega)
  rw [hs] at hcon
  refine Calls.mono hcon ?_
  rintro e w' ⟨rfl, d', m, os, hp, hso, rfl⟩
  obtain ⟨hsz, _, hperm⟩ := hp
  rw [hs] at hsz
  refine ⟨rfl, d'.toList.map (fun x : {x // x ∈ l} => x.1), ?_, ?_, ⟨(EL.sub_own ratE _ d'.toList _ B _).1 ((hE.putK d' hsz m).ext (Go.Par.ext_grow _ os)), fun g' hg' => ?_⟩, grown_putRowK _ _ _ _ _ _, dig_putRow hO m d' os⟩
  · have e1 : d'.extract 0 l.length = d' := by rw [← hsz]; simp
    have e2 : zs.toArray.extract 0 l.length = zs.toArray := by rw [← hs]; simp
    rw [e1, e2] at hperm
    have : d'.toList.Perm zs := by simpa using hperm
    have := this.map (fun x : {x // x ∈ l} => x.1)
    rwa [hzl] at this
  · rw [List.pairwise_map, List.pairwise_iff_getElem]
    intro i j hi hj hij
    simp only [Array.length_toList] at hi hj
    have := hso i j (Nat.zero_le _) hij (by omega)
    rw [getElem!_pos d' i hi, getElem!_pos d' j hj] at this
    unfold ltOf at this
    rw [decide_eq_false_iff_not, ltOf_cmpQ] at this
    simp only [Array.getElem_toList]
    grind
  · simp only [Value.ownBlock, Option.some.injEq] at hg'
    subst hg'
    exact nod_putRow hC hO m d' os
end Go.Proofs.YtodefmfgoehkhaaGreat

/- Elements of a row written; slices.CompactFunc at rationals; rising. -/
set_option linter.unusedVariables false
set_option linter.unusedSimpArgs false
namespace Go.Par
open Go.RowKit
def putL : List Value → Nat → Array Value → Array Value
  | [], _, c => c
  | v :: vs, o, c => putL vs (o + 1) (c.setIfInBounds o v)
theorem putL_size : ∀ (vs : List Value) (o : Nat) (c : Array Value), (putL vs o c).size = c.size
  | [], _, _ => rfl
  | v :: vs, o, c => by rw [putL, putL_size vs]; simp
theorem putL_get : ∀ (vs : List Value) (o : Nat) (c : Array Value) (j : Nat), (putL vs o c)[j]? = if o ≤ j ∧ j < o + vs.length ∧ j < c.size then vs[j - o]? else c[j]?
  | [], o, c, j => by rw [putL, if_neg (by simp; omega)]
  | v :: vs, o, c, j => by
    rw [putL, putL_get vs (o + 1) _ j, Array.size_setIfInBounds, List.length_cons]
    by_cases h1 : o + 1 ≤ j ∧ j < o + 1 + vs.length ∧ j < c.size
    · rw [if_pos h1, if_pos (by omega), show j - o = (j - (o + 1)) + 1 by omega, List.getElem?_cons_succ]
    · rw [if_neg h1]
      by_cases h2 : o = j
      · subst h2
        by_cases h3 : o < c.size
        · rw [if_pos (by omega), Nat.sub_self, List.getElem?_cons_zero, Array.getElem?_setIfInBounds_self_of_lt h3]
        · rw [if_neg (by omega), Array.getElem?_eq_none (by simp; omega), Array.getElem?_eq_none (by omega)]
      · rw [Array.getElem?_setIfInBounds_ne h2, if_neg (by omega)]
theorem box_setCells {g : Nat} {t : TypeId} : ∀ (vs : List Value) (o : Nat) (c : Array Value) (w : World), Box w g t c → Box (w.setCells g o vs) g t (putL vs o c)
  | [], _, _, _, h => h
  | v :: vs, o, c, w, h => box_setCells vs (o + 1) _ _ (h.set o v)
theorem but_setCells {g : Nat} {u : World} : ∀ (vs : List Value) (o : Nat) (w : World), But g u w → But g u (w.setCells g o vs)
  | [], _, _, h => h
  | v :: vs, o, w, h => but_setCells vs (o + 1) _ (h.set o v)
section
variable {P : Program} {α : Type} {E : EL P α} {w : World} {B g n cap : Nat} {l : List α}
theorem EL.Own.cellAt (h : E.Own w B (.slice (some ⟨g, 0, none⟩) n cap) l) {k j : Nat} {x : α} {v : Value} (hx : l[k]? = some x) (hv : (E.enc x)[j]? = some v) : w.cell? ⟨g, k * E.size + j, none⟩ = some v := by
  obtain ⟨cur, hl, hb, hg, hcap, hm, hs, hc⟩ := h.opened
  rw [hg.cell]
  exact hc _ _ (E.cells_at hx hv)
theorem EL.Own.frozenAt (h : E.Own w B (.slice (some ⟨g, 0, none⟩) n cap) l) (j : Nat) : w.frozen? ⟨g, j, none⟩ = false := by
  obtain ⟨cur, hl, hb, hg, hcap, hm, hs, hc⟩ := h.opened
  exact hg.frozen j
theorem EL.Own.put1 (h : E.Own w B (.slice (some ⟨g, 0, none⟩) n cap) l) {k : Nat} (hk : k < n) (x : α) : E.Own (w.setCells g (k * E.size) (E.enc x)) B (.slice (some ⟨g, 0, none⟩) n cap) (l.set k x) := by
  obtain ⟨cur, hl, hb, hg, hcap, hm, hs, hc⟩ := h.opened
  have hkc : (k + 1) * E.size ≤ cap * E.size := Nat.mul_le_mul_right _ (by omega)
  rw [Nat.add_mul, Nat.one_mul] at hkc
  refine EL.Own.mk (by rw [List.length_set]; exact hl) hb (box_setCells _ _ _ _ hg) hcap hm (by rw [putL_size]; exact hs) fun j v hv => ?_
  obtain ⟨i, j', y, hy, hv', rfl, hj'⟩ := E.cells_at' hv
  rw [putL_get, E.len]
  rw [List.getElem?_set] at hy
  by_cases hki : k = i
  · subst hki
    rw [if_pos rfl, if_pos (by omega)] at hy
    injection hy with hy
    subst hy
    rw [if_pos (by omega), show k * E.size + j' - k * E.size = j' by omega]
    exact hv'
  · rw [if_neg hki] at hy
    have hnot : ¬ (k * E.size ≤ i * E.size + j' ∧ i * E.size + j' < k * E.size + E.size ∧ i * E.size + j' < cur.size) := by
      rintro ⟨h1, h2, _⟩
      rcases Nat.lt_or_ge i k with h3 | h3
      · have := Nat.mul_le_mul_right E.size (show i + 1 ≤ k from h3)
        rw [Nat.add_mul, Nat.one_mul] at this
        omega
      · have := Nat.mul_le_mul_right E.size (show k + 1 ≤ i by omega)
        rw [Nat.add_mul, Nat.one_mul] at this
        omega
    rw [if_neg hnot]
    exact hc _ _ (E.cells_at hy hv')
/-- cells behind the row's end written -/
theorem EL.Own.beyond (h : E.Own w B (.slice (some ⟨g, 0, none⟩) n cap) l) (vs : List Value) (o : Nat) (ho : n * E.size ≤ o) : E.Own (w.setCells g o vs) B (.slice (some ⟨g, 0, none⟩) n cap) l := by
  obtain ⟨cur, hl, hb, hg, hcap, hm, hs, hc⟩ := h.opened
  refine EL.Own.mk hl hb (box_setCells _ _ _ _ hg) hcap hm (by rw [putL_size]; exact hs) fun j v hv => ?_
  have hj := (List.getElem?_eq_some_iff.1 hv).1
  rw [E.cells_length, ← hl] at hj
  rw [putL_get, if_neg (by omega)]
  exact hc _ _ hv
end
end Go.Par
namespace Go.Proofs.YtodefmfgoehkhaaGreat
open Go.RowKit Go.Par Go.Sort Go.Lib Go.TN

section
variable {α : Type} {E : EL Tryz.prog α} {w : World} {B g n cap : Nat} {l : List α}
theorem NoDig.setCells {w : World} {g : Nat} (vs : List Value) (o : Nat) {t : TypeId} {cur : Array Value} (hB : Box w g t cur) (h : NoDig w g) (hv : ∀ u ∈ vs, ∀ d : Int, u ≠ .int .u32 d) : NoDig (w.setCells g o vs) g :=
  NoDig.box (box_setCells vs o cur w hB) fun i d e => by
    rw [putL_get] at e
    split at e
    · exact hv _ (List.mem_of_getElem? e) d rfl
    · exact h i d (by rw [hB.cell]; exact e)
theorem OwnC.put1 (hC : Clean E) (h : OwnC E w B (.slice (some ⟨g, 0, none⟩) n cap) l) {k : Nat} (hk : k < n) (x : α) : OwnC E (w.setCells g (k * E.size) (E.enc x)) B (.slice (some ⟨g, 0, none⟩) n cap) (l.set k x) := by
  refine ⟨h.own.put1 hk x, fun g' hg' => ?_⟩
  simp only [Value.ownBlock, Option.some.injEq] at hg'
  subst hg'
  obtain ⟨cur, hl, hb, hg, hcap, hm, hs, hc⟩ := h.own.opened
  exact NoDig.setCells _ _ hg (h.nod g rfl) (hC.enc x)
theorem OwnC.beyond (h : OwnC E w B (.slice (some ⟨g, 0, none⟩) n cap) l) (vs : List Value) (o : Nat) (ho : n * E.size ≤ o) (hv : ∀ u ∈ vs, ∀ d : Int, u ≠ .int .u32 d) : OwnC E (w.setCells g o vs) B (.slice (some ⟨g, 0, none⟩) n cap) l := by
  refine ⟨h.own.beyond vs o ho, fun g' hg' => ?_⟩
  simp only [Value.ownBlock, Option.some.injEq] at hg'
  subst hg'
  obtain ⟨cur, hl, hb, hg, hcap, hm, hs, hc⟩ := h.own.opened
  exact NoDig.setCells _ _ hg (h.nod g rfl) hv
theorem OwnC.cut (h : OwnC E w B (.slice (some ⟨g, 0, none⟩) n cap) l) {k : Nat} (hk : k ≤ n) : OwnC E w B (.slice (some ⟨g, 0, none⟩) k cap) (l.take k) := ⟨h.own.cut hk, h.nod⟩
theorem OwnC.digSet (h : OwnC E w B (.slice (some ⟨g, 0, none⟩) n cap) l) (vs : List Value) (o : Nat) : DigKeep w (w.setCells g o vs) := DigKeep.but (but_setCells vs o w (But.refl _ _)) (h.nod g rfl)
end
/-- a rational of a row, to be read and written -/
theorem own_rat {w : World} {B g n cap : Nat} {l : List RQ} (h : OwnC ratE w B (.slice (some ⟨g, 0, none⟩) n cap) l) {k : Nat} {x : RQ} (hx : l[k]? = some x) :
    (w.cell? ⟨g, k * 4, none⟩ = some (.bool x.b) ∧ w.cell? ⟨g, k * 4 + 1, none⟩ = some (.slice x.A x.n x.c)) ∧ (w.cell? ⟨g, k * 4 + 2, none⟩ = some (.bool x.b') ∧ w.cell? ⟨g, k * 4 + 3, none⟩ = some (.slice x.A' x.n' x.c')) :=
  ⟨⟨h.own.cellAt (E := ratE) (j := 0) hx rfl, h.own.cellAt (E := ratE) (j := 1) hx rfl⟩, h.own.cellAt (E := ratE) (j := 2) hx rfl, h.own.cellAt (E := ratE) (j := 3) hx rfl⟩

/-! ## runs of equal values -/
def compactR : List RQ → List RQ
  | [] => []
  | [x] => [x]
  | x :: y :: t => if x.q = y.q then x :: (compactR (y :: t)).tail else x :: compactR (y :: t)
theorem compactR_head : ∀ (y : RQ) (t : List RQ), ∃ s, compactR (y :: t) = y :: s
  | y, [] => ⟨[], rfl⟩
  | y, z :: t => by unfold compactR; split <;> exact ⟨_, rfl⟩
theorem compactR_snoc : ∀ (xs : List RQ) (a b : RQ), compactR (xs ++ [a, b]) = if a.q = b.q then compactR (xs ++ [a]) else compactR (xs ++ [a]) ++ [b]
  | [], a, b => by
    show compactR [a, b] = _
    unfold compactR
    split <;> rfl
  | [x], a, b => by
    show compactR [x, a, b] = if a.q = b.q then compactR [x, a] else compactR [x, a] ++ [b]
    by_cases h1 : x.q = a.q <;> by_cases h2 : a.q = b.q <;> simp [compactR, h1, h2]
  | x :: y :: xs, a, b => by
    have ih := compactR_snoc (y :: xs) a b
    simp only [List.cons_append] at ih ⊢
    obtain ⟨s, hs⟩ := compactR_head y (xs ++ [a])
    rw [compactR, compactR, ih, hs]
    split <;> split <;> simp
theorem compactR_step {l : List RQ} {k : Nat} {a b : RQ} (hk : 1 ≤ k) (ha : l[k - 1]? = some a) (hb : l[k]? = some b) : compactR (l.take (k + 1)) = if a.q = b.q then compactR (l.take k) else compactR (l.take k) ++ [b] := by
  have h1 : l.take (k + 1) = l.take k ++ [b] := by rw [List.take_add_one, hb]; rfl
  have h2 : l.take k = l.take (k - 1) ++ [a] := by
    have : l.take (k - 1 + 1) = l.take (k - 1) ++ [a] := by rw [List.take_add_one, ha]; rfl
    rwa [show k - 1 + 1 = k by omega] at this
  rw [h1, h2, List.append_assoc]
  exact compactR_snoc _ a b
theorem compactR_mem : ∀ (l : List RQ) (x : RQ), x ∈ compactR l → x ∈ l
  | [], x, h => h
  | [a], x, h => h
  | a :: b :: t, x, h => by
    have ih := compactR_mem (b :: t) x
    unfold compactR at h
    split at h
    · rcases List.mem_cons.1 h with rfl | h
      · exact List.mem_cons_self
      · exact List.mem_cons_of_mem _ (ih (List.mem_of_mem_tail h))
    · rcases List.mem_cons.1 h with rfl | h
      · exact List.mem_cons_self
      · exact List.mem_cons_of_mem _ (ih h)
/-- the values in order, each once -/
theorem compactR_up : ∀ (l : List RQ), l.Pairwise (fun a b => a.q ≤ b.q) → (compactR l).Pairwise (fun a b => a.q < b.q) ∧ (∀ q, q ∈ (compactR l).map (·.q) ↔ q ∈ l.map (·.q)) ∧ (∀ x ∈ compactR l, ∀ y, l.head? = some y → y.q ≤ x.q)
  | [], _ => ⟨List.Pairwise.nil, fun q => Iff.rfl, fun x h => by cases h⟩
  | [a], _ => ⟨List.pairwise_singleton _ _, fun q => Iff.rfl, fun x h y hy => by
      simp only [compactR, List.mem_singleton] at h
      simp only [List.head?_cons, Option.some.injEq] at hy
      subst h hy
      exact Rat.le_refl⟩
  | a :: b :: t, hp => by
    obtain ⟨i1, i2, i3⟩ := compactR_up (b :: t) (List.pairwise_cons.1 hp).2
    have hab : a.q ≤ b.q := (List.pairwise_cons.1 hp).1 b List.mem_cons_self
    obtain ⟨s, hs⟩ := compactR_head b t
    unfold compactR
    rw [hs] at i1 i2 i3 ⊢
    split
    · rename_i he
      refine ⟨List.pairwise_cons.2 ⟨fun x hx => ?_, (List.pairwise_cons.1 i1).2⟩, fun q => ?_, fun x hx y hy => ?_⟩
      · have := (List.pairwise_cons.1 i1).1 x hx; grind
      · have := i2 q
        simp only [List.map_cons, List.mem_cons, List.tail_cons] at this ⊢
        rw [he, ← this]
        simp
      · simp only [List.head?_cons, Option.some.injEq] at hy
        subst hy
        rcases List.mem_cons.1 hx with rfl | hx
        · exact Rat.le_refl
        · have := i3 x (List.mem_cons_of_mem _ hx) b rfl
          grind
    · rename_i he
      refine ⟨List.pairwise_cons.2 ⟨fun x hx => ?_, i1⟩, fun q => ?_, fun x hx y hy => ?_⟩
      · have := i3 x hx b rfl; grind
      · have := i2 q
        simp only [List.map_cons, List.mem_cons] at this ⊢
        rw [this]
      · simp only [List.head?_cons, Option.some.injEq] at hy
        subst hy
        rcases List.mem_cons.1 hx with rfl | hx
        · exact Rat.le_refl
        · have := i3 x hx b rfl
          grind
/-! ## clear -/
theorem zero_rat (w : World) : (zeroValue 29).run Tryz.prog w = .ok (.agg #[.bool false, .slice none 0 0, .bool false, .slice none 0 0]) w := by kernel_rfl
theorem zeros_one (n : Nat) : ∀ u ∈ (Builtin.zeroCells ratE.zero.cells n).toList, u.oneCell' = true := fun u hu => by
  rw [Array.mem_toList_iff] at hu
  unfold Builtin.zeroCells at hu
  obtain ⟨i, _, rfl⟩ := Array.mem_map.1 hu
  have hp : 0 < ratE.zero.cells.size := by rw [ratE.zsize]; exact ratE.pos
  have hlt := Nat.mod_lt i hp
  rw [getElem!_pos ratE.zero.cells _ hlt]
  have hm := Array.mem_toList_iff.2 (Array.getElem_mem hlt)
  generalize ratE.zero.cells[i % ratE.zero.cells.size] = u at *
  simp [ratE, Value.cells] at hm
  rcases hm with rfl | rfl | rfl | rfl <;> rfl
theorem run_clear_rat (w : World) (ty : TypeId) (b o n c : Nat) (hn : 0 < n) (hc : ∀ j, j < n * 4 → (w.cell? ⟨b, o + j, none⟩).isSome = true) (hf : ∀ j, j < n * 4 → w.frozen? ⟨b, o + j, none⟩ = false) :
    (Builtin.clear_ #[81] ty #[.slice (some ⟨b, o, none⟩) n c]).run Tryz.prog w = .ok (.tuple #[]) (w.setCells b o (Builtin.zeroCells ratE.zero.cells n).toList) := by
  have hlen : (Builtin.zeroCells ratE.zero.cells n).toList.length = n * 4 := by simp [Builtin.zeroCells, ratE, Value.cells]
  have hst := run_storeCells_cells (P := Tryz.prog) b o (Builtin.zeroCells ratE.zero.cells n).toList 0 w (by rw [hlen]; simpa using hc) (by rw [hlen]; simpa using hf) (zeros_one n)
  simp only [Nat.add_zero] at hst
  obtain ⟨m, rfl⟩ : ∃ m, n = m + 1 := ⟨n - 1, by omega⟩
  have hz : (Value.agg #[.bool false, .slice none 0 0, .bool false, .slice none 0 0]) = ratE.zero := rfl
  simp [Builtin.clear_, run_underlying Tryz.underlying81, zero_rat, hz, hst]
/-! ## the walks -/
set_option maxHeartbeats 400000 in
theorem eqR_any {w : World} {bf k m : Nat} {x y : RQ} (hx : x.At w) (hy : y.At w) (s1 : Sz k x.q) (s2 : Sz m y.q) (hk : k + m ≤ 100000000) (hb : Box w bf 43 #[.func (.func 11) #[] #[]]) :
    Calls Tryz.prog 108 #[.agg #[.bool x.b, .slice x.A x.n x.c, .bool x.b', .slice x.A' x.n' x.c'], .agg #[.bool y.b, .slice y.A y.n y.c, .bool y.b', .slice y.A' y.n' y.c'], .pointer (some ⟨bf, 0, none⟩)] w fun e w' => e = .returned (.bool (decide (x.q = y.q))) ∧ Ext w w' := by
  have H := Lib.hid (fun W (hE : Ext w W) => cmpR (hx.ext hE).rv (hy.ext hE).rv s1 s2 hk)
  have e : cmpQ x.q y.q = 0 ↔ x.q = y.q := cmpQ_zero
  have cb := hb.cell
  generalize cmpQ x.q y.q = r at *
  have HR := Lib.hid e
  clear hx hy s1 s2 hk e
  generalize hq : decide (x.q = y.q) = d
  have HD := Lib.hid hq
  clear hq
  have hlt := hb.lt
  have n1 : ¬ bf = w.heap.size := by omega
  have n2 : ¬ bf = w.heap.size + 1 := by omega
  have eg : ∀ args w, (callFunc 11 args).run Tryz.prog w = .ok (.enter 11 args) w := enters_of Tryz.func11 (by kernel_rfl) rfl
  go_enter Tryz.func108, Tryz.ntmps108
  go_wp2_with fail
  refine (H.out _ ((Ext.alloc _ _).trans (Ext.alloc _ _))).mono ?_
  rintro e w1 ⟨rfl, hE⟩
  clear cb eg
  go_wp2
  go_ret
  refine ⟨ret_eq ?_, ((Ext.alloc _ _).trans (Ext.alloc _ _)).trans hE⟩
  have : decide (r = 0) = d := by rw [← HD.out, decide_eq_decide]; exact HR.out
  exact congrArg Value.bool this
theorem cCompact_small (A : Option Addr) (c n : Nat) (fv : Value) (w : World) (hn : n < 2) :
    Calls Tryz.prog 107 #[.slice A n c, fv] w fun e w' => e = .returned (.slice A n c) ∧ w = w' := by
  have d0 : (n : Int) < 2 := by omega
  go_enter Tryz.func107, Tryz.ntmps107
  go_wp2
  go_ret
  exact ⟨rfl, rfl⟩
theorem setCells4 (w : World) (g o : Nat) (a b c d : Value) : w.setCells g o [a, b, c, d] = (((w.setCell ⟨g, o, none⟩ a).setCell ⟨g, o + 1, none⟩ b).setCell ⟨g, o + 2, none⟩ c).setCell ⟨g, o + 3, none⟩ d := rfl
theorem eqR_enter (args : Array Value) (w : World) : (callFunc 108 args).run Tryz.prog w = .ok (.enter 108 args) w := by kernel_rfl
set_option maxRecDepth 100000 in
set_option maxHeartbeats 1600000 in
theorem cCompact_any {w : World} {B g n cap bf k0 : Nat} {l : List RQ} (hown : OwnC ratE w B (.slice (some ⟨g, 0, none⟩) n cap) l) (hn : n ≤ 1000000) (hx : ∀ x ∈ l, x.At w ∧ Sz k0 x.q) (hk0 : k0 ≤ 10000000) (hb : Box w bf 43 #[.func (.func 11) #[] #[]]) :
    Calls Tryz.prog 107 #[.slice (some ⟨g, 0, none⟩) n cap, .func (.func 108) #[] #[.pointer (some ⟨bf, 0, none⟩)]] w fun e w' =>
      ∃ m, e = .returned (.slice (some ⟨g, 0, none⟩) m cap) ∧ OwnC ratE w' B (.slice (some ⟨g, 0, none⟩) m cap) (compactR l) ∧ But g w w' ∧ DigKeep w w' := by
  obtain ⟨_, hl, _, _, hcap, hcm, _⟩ := hown.own.opened
  have hgf : bf ≠ g := fun e => by
    subst e
    exact hown.ne_box hb (by decide) rfl
  have HN := Lib.hid hl
  have HEQ : Hid (∀ W, But g w W → DigKeep w W → ∀ (i j : Nat) (x y : RQ), l[i]? = some x → l[j]? = some y → ∀ z : Later W, Calls Tryz.prog 108 #[.agg #[.bool x.b, .slice x.A x.n x.c, .bool x.b', .slice x.A' x.n' x.c'], .agg #[.bool y.b, .slice y.A y.n y.c, .bool y.b', .slice y.A' y.n' y.c'], .pointer (some ⟨bf, 0, none⟩)] z.val fun e w' => e = .returned (.bool (decide (x.q = y.q))) ∧ Ext z.val w') :=
    Lib.hid fun W hB hD i j x y hi hj z => by
      obtain ⟨a1, s1⟩ := hx x (List.mem_of_getElem? hi)
      obtain ⟨a2, s2⟩ := hx y (List.mem_of_getElem? hj)
      exact eqR_any ((a1.dk hD).ext z.prop) ((a2.dk hD).ext z.prop) s1 s2 (by omega) ((hB.box hb hgf).ext z.prop)
  by_cases h2 : n < 2
  · have e : compactR l = l := by
      match l, hl with
      | [], _ => rfl
      | [_], _ => rfl
      | _ :: _ :: _, h => simp at h; omega
    rw [e]
    exact (cCompact_small _ _ n _ w h2).mono fun e w' ⟨h1, h2⟩ => ⟨n, h1, by subst h2; exact ⟨hown, But.refl _ _, DigKeep.refl _⟩⟩
  · have d0 : ¬ (n : Int) < 2 := by omega
    clear hl hx hb hgf
    have hcapm : (cap : Int) ≤ 9223372036854775807 := by
      unfold maxLen at hcm
      omega
    clear hcm
    have heg := eqR_enter
    go_enter Tryz.func107, Tryz.ntmps107
    go_wp2_with fail
    go_loopw [5, 6, 7] (fun i _ _ wr => ∃ k : Nat, 1 ≤ k ∧ k ≤ n ∧ i = .int .i64 k ∧ But g w wr ∧ DigKeep w wr ∧ OwnC ratE wr B (.slice (some ⟨g, 0, none⟩) n cap) l ∧ Hid (compactR (l.take k) = l.take k)) (fun i _ _ _ => n - (intOf i).toNat)
    case atStart => exact ⟨1, Nat.le_refl _, by omega, rfl, But.refl _ _, DigKeep.refl _, hown, Lib.hid (by
      cases l with
      | nil => rfl
      | cons x t => rfl)⟩
    case round =>
      clear hown
      obtain ⟨k, hk1, hk, rfl, hbut, hdig, hown, HK⟩ := hrel
      by_cases hlt : k < n
      · obtain ⟨k1, hkk⟩ : ∃ k1, k1 = k - 1 := ⟨_, rfl⟩
        obtain ⟨a, hla⟩ : ∃ q, l[k1]? = some q := ⟨_, List.getElem?_eq_getElem (by rw [← HN.out]; omega)⟩
        obtain ⟨b, hlb⟩ : ∃ q, l[k]? = some q := ⟨_, List.getElem?_eq_getElem (by rw [← HN.out]; exact hlt)⟩
        have hst := compactR_step hk1 (by rw [← hkk]; exact hla) hlb
        rw [HK.out] at hst
        have HST := Lib.hid hst
        have HTK := Lib.hid (show l.take (k + 1) = l.take k ++ [b] by rw [List.take_add_one, hlb]; rfl)
        obtain ⟨⟨x0, x1⟩, x2, x3⟩ := own_rat hown hla
        obtain ⟨⟨y0, y1⟩, y2, y3⟩ := own_rat hown hlb
        have w1 : IntKind.i64.wrap ((k : Int) - 1) = (k1 : Int) := (IntWalk.i64_in _ (by omega)).trans (by omega)
        have n1 : k1 < n := by omega
        have HKK := Lib.hid hkk
        have HK1 := Lib.hid hk1
        generalize hdd : decide (b.q = a.q) = dd
        have HDD := Lib.hid hdd
        have HE0 := fun (W : World) (h1 : But g w W) (h2 : DigKeep w W) => HEQ.out W h1 h2 k k1 b a hlb hla
        rw [hdd] at HE0
        have HE := Lib.hid HE0
        clear hst hkk hk1 hdd HE0 hla hlb
        go_wp2_with fail
        apply wp_region_par' 11 (by kernel_rfl) (by kernel_rfl) rfl
        simp only [List.take_succ_cons, List.take_zero, List.drop_succ_cons, List.drop_zero]
        generalize hW : World.drew _ = W
        have hEW : Ext wr W := by rw [← hW]; exact Ext.drew _
        clear hW
        have e0 := fun z : Later W => z.cell (hEW.cell x0)
        have e1 := fun z : Later W => z.cell (hEW.cell x1)
        have e2 := fun z : Later W => z.cell (hEW.cell x2)
        have e3 := fun z : Later W => z.cell (hEW.cell x3)
        have e4 := fun z : Later W => z.cell (hEW.cell y0)
        have e5 := fun z : Later W => z.cell (hEW.cell y1)
        have e6 := fun z : Later W => z.cell (hEW.cell y2)
        have e7 := fun z : Later W => z.cell (hEW.cell y3)
        have HC := Lib.hid (HE.out W (hbut.trans (But.of_ext hEW)) (hdig.trans (DigKeep.ext hEW)))
        clear x0 x1 x2 x3 y0 y1 y2 y3 HE
        iterate 11
          refine parW_step rfl (fun K hK => ?_)
          apply Exists.intro
          refine ⟨fun z => ?_, ?_⟩
          focus
            go_simp
            first
              | rfl
              | with_reducible exact calls_val (HC.out _)
          go_simp
          refine hK _ ?_
          clear hK K
        refine parW_end (fun z => ?_)
        have hEz := hEW.later z
        clear e0 e1 e2 e3 e4 e5 e6 e7 HC
        generalize z.val = Z at *
        clear z hEW
        replace hown := hown.ext hEz
        replace hbut := hbut.trans (But.of_ext hEz)
        replace hdig := hdig.trans (DigKeep.ext hEz)
        clear hEz
        cases dd
        · have hne : ¬ a.q = b.q := fun e => by have := HDD.out; simp [e] at this
          have HD := Lib.hid (show compactR (l.take (k + 1)) = l.take (k + 1) from by rw [HST.out, if_neg hne, HTK.out])
          clear hne w1 heg
          go_wp2
          go_roundw
          case rel => exact ⟨k + 1, by omega, by omega, by go_num, hbut, hdig, hown, HD⟩
          case measure => simp [intOf]; omega
        · have heq : a.q = b.q := by have := HDD.out; simp at this; exact this.symm
          have HD := Lib.hid (show compactR (l.take (k + 1)) = l.take k from by rw [HST.out, if_pos heq])
          have n3 : k ≤ n := hk
          have n4 : k ≤ cap := by omega
          have n5 : (cap = k) = False := eq_false (by omega)
          clear HST w1 heq HDD
          go_wp2_with fail
          generalize hm : n - k = m at *
          generalize hcp : cap - k = cp at *
          have HMM := Lib.hid hm
          have m0 : m ≤ 1000000 := by omega
          have m1 : 0 < m := by omega
          clear hm hcp
          generalize wr = wo at *
          go_loopw [5, 7] (fun t i wr => ∃ (kk k2 : Nat) (cont : List RQ), 1 ≤ k2 ∧ k2 ≤ m ∧ t = .int .i64 kk ∧ i = .int .i64 k2 ∧ OwnC ratE wr B (.slice (some ⟨g, 0, none⟩) n cap) cont ∧ But g w wr ∧ DigKeep w wr ∧
            Hid (1 ≤ kk ∧ kk ≤ k + k2 - 1 ∧ cont.length = n ∧ cont.take kk = compactR (l.take (k + k2)) ∧ ∀ j, k + k2 - 1 ≤ j → cont[j]? = l[j]?)) (fun _ i _ => m - (intOf i).toNat)
          case atStart => exact ⟨k, 1, l, Nat.le_refl _, m1, rfl, rfl, hown, hbut, hdig, Lib.hid ⟨HK1.out, by omega, HN.out.symm, HD.out.symm, fun j _ => rfl⟩⟩
          case round =>
            clear hown hbut hdig
            obtain ⟨kk, k2, cont, hk21, hk2, rfl, rfl, hown, hbut, hdig, HC⟩ := hrel
            have hkk := HC.out.2.1
            have hcl := HC.out.2.2.1
            have hnk : m + k = n := by have := HMM.out; omega
            by_cases hlt2 : k2 < m
            · obtain ⟨k21, hk2'⟩ : ∃ k21, k21 = k2 - 1 := ⟨_, rfl⟩
              obtain ⟨c, hlc⟩ : ∃ q, l[k + k21]? = some q := ⟨_, List.getElem?_eq_getElem (by rw [← HN.out]; omega)⟩
              obtain ⟨q, hlq⟩ : ∃ q, l[k + k2]? = some q := ⟨_, List.getElem?_eq_getElem (by rw [← HN.out]; omega)⟩
              obtain ⟨o, hlo⟩ : ∃ q, cont[kk]? = some q := ⟨_, List.getElem?_eq_getElem (by rw [hcl]; omega)⟩
              have hst := compactR_step (l := l) (k := k + k2) (by omega) (by rw [show k + k2 - 1 = k + k21 by omega]; exact hlc) hlq
              have hcc := own_rat hown (k := k + k21) (by rw [HC.out.2.2.2.2 _ (by omega)]; exact hlc)
              have hcq := own_rat hown (k := k + k2) (by rw [HC.out.2.2.2.2 _ (by omega)]; exact hlq)
              rw [show (k + k21) * 4 = k * 4 + k21 * 4 by omega] at hcc
              rw [show (k + k2) * 4 = k * 4 + k2 * 4 by omega] at hcq
              obtain ⟨⟨x0, x1⟩, x2, x3⟩ := hcc
              have HCQ := Lib.hid hcq
              obtain ⟨⟨y0, y1⟩, y2, y3⟩ := hcq
              have w1 : IntKind.i64.wrap ((k2 : Int) - 1) = (k21 : Int) := (IntWalk.i64_in _ (by omega)).trans (by omega)
              have n6 : k21 < m := by omega
              have n7 : kk < n := by omega
              generalize hdd : decide (q.q = c.q) = dd
              have HDD := Lib.hid hdd
              have HE0 := fun (W : World) (h1 : But g w W) (h2 : DigKeep w W) => HEQ.out W h1 h2 (k + k2) (k + k21) q c hlq hlc
              rw [hdd] at HE0
              have HE := Lib.hid HE0
              have HST := Lib.hid hst
              have HLO := Lib.hid hlo
              have HLQ := Lib.hid hlq
              have HKK := Lib.hid hkk
              have HCL := Lib.hid hcl
              clear hst hlc hlq hlo hk2' hkk hcl hnk hdd HE0
              go_wp2_with fail
              apply wp_region_par' 12 (by kernel_rfl) (by kernel_rfl) rfl
              simp only [List.take_succ_cons, List.take_zero, List.drop_succ_cons, List.drop_zero]
              generalize hW : World.drew _ = W
              have hEW : Ext wr W := by rw [← hW]; exact Ext.drew _
              clear hW
              have e0 := fun z : Later W => z.cell (hEW.cell x0)
              have e1 := fun z : Later W => z.cell (hEW.cell x1)
              have e2 := fun z : Later W => z.cell (hEW.cell x2)
              have e3 := fun z : Later W => z.cell (hEW.cell x3)
              have e4 := fun z : Later W => z.cell (hEW.cell y0)
              have e5 := fun z : Later W => z.cell (hEW.cell y1)
              have e6 := fun z : Later W => z.cell (hEW.cell y2)
              have e7 := fun z : Later W => z.cell (hEW.cell y3)
              have HQ := Lib.hid (HE.out W (hbut.trans (But.of_ext hEW)) (hdig.trans (DigKeep.ext hEW)))
              clear x0 x1 x2 x3 y0 y1 y2 y3 HE
              iterate 12
                refine parW_step rfl (fun K hK => ?_)
                apply Exists.intro
                refine ⟨fun z => ?_, ?_⟩
                focus
                  go_simp
                  first
                    | rfl
                    | with_reducible exact calls_val (HQ.out _)
                go_simp
                refine hK _ ?_
                clear hK K
              refine parW_end (fun z => ?_)
              have hEz := hEW.later z
              clear e0 e1 e2 e3 e4 e5 e6 e7 HQ
              replace hown := hown.ext hEz
              replace hbut := hbut.trans (But.of_ext hEz)
              replace hdig := hdig.trans (DigKeep.ext hEz)
              have y0 := hEz.cell HCQ.out.1.1
              have y1 := hEz.cell HCQ.out.1.2
              have y2 := hEz.cell HCQ.out.2.1
              have y3 := hEz.cell HCQ.out.2.2
              obtain ⟨⟨r0, r1⟩, r2, r3⟩ := own_rat hown HLO.out
              have r4 := hown.own.frozenAt (E := ratE)
              clear hEz
              generalize z.val = Z at *
              clear z hEW
              cases dd
              · have hne : ¬ c.q = q.q := fun e => by have := HDD.out; simp [e] at this
                have HD := Lib.hid (show compactR (l.take (k + k2 + 1)) = compactR (l.take (k + k2)) ++ [q] from by rw [HST.out, if_neg hne])
                have hset := hown.put1 ratE_clean n7 q
                have hbs := hbut.trans (but_setCells (ratE.enc q) (kk * ratE.size) Z (But.refl _ _))
                have hds := hdig.trans (hown.digSet (ratE.enc q) (kk * ratE.size))
                rw [show Z.setCells g (kk * ratE.size) (ratE.enc q) = (((Z.setCell ⟨g, kk * 4, none⟩ (.bool q.b)).setCell ⟨g, kk * 4 + 1, none⟩ (.slice q.A q.n q.c)).setCell ⟨g, kk * 4 + 2, none⟩ (.bool q.b')).setCell ⟨g, kk * 4 + 3, none⟩ (.slice q.A' q.n' q.c') from rfl] at hset hbs hds
                have HNEW := Lib.hid (show 1 ≤ kk + 1 ∧ kk + 1 ≤ k + (k2 + 1) - 1 ∧ (cont.set kk q).length = n ∧ (cont.set kk q).take (kk + 1) = compactR (l.take (k + (k2 + 1))) ∧ ∀ j, k + (k2 + 1) - 1 ≤ j → (cont.set kk q)[j]? = l[j]? from by
                  have h1 := HC.out.2.1
                  have h2 := HC.out.2.2.1
                  refine ⟨by omega, by omega, by rw [List.length_set]; exact h2, ?_, fun j hj => ?_⟩
                  · have e : (cont.set kk q)[kk]? = some q := by rw [List.getElem?_set_self (by omega)]
                    rw [List.take_add_one, e, List.take_set_of_le (Nat.le_refl _), HC.out.2.2.2.1, ← Nat.add_assoc, HD.out]
                    rfl
                  · rw [List.getElem?_set_ne (by omega)]
                    exact HC.out.2.2.2.2 j (by omega))
                clear hne w1 HST hown hbut hdig heg
                go_wp2
                go_roundw
                case rel => exact ⟨kk + 1, k2 + 1, cont.set kk q, by omega, by omega, by go_num, by go_num, hset, hbs, hds, HNEW⟩
                case measure => simp [intOf]; omega
              · have heq : c.q = q.q := by have := HDD.out; simp at this; exact this.symm
                have HD := Lib.hid (show compactR (l.take (k + k2 + 1)) = compactR (l.take (k + k2)) from by rw [HST.out, if_pos heq])
                clear y0 y1 y2 y3 r0 r1 r2 r3 r4 w1 HST heq heg
                go_wp2
                go_roundw
                case rel => exact ⟨kk, k2 + 1, cont, by omega, by omega, rfl, by go_num, hown, hbut, hdig, Lib.hid ⟨HC.out.1, by have := HKK.out; omega, HC.out.2.2.1, by rw [HC.out.2.2.2.1]; exact HD.out.symm, fun j hj => HC.out.2.2.2.2 j (by omega)⟩⟩
                case measure => simp [intOf]; omega
            · have e2 : k2 = m := by omega
              subst e2
              have hkm : k + k2 = n := by have := HMM.out; omega
              have hfin : l.take (k + k2) = l := List.take_of_length_le (by rw [← HN.out]; omega)
              have hcf := HC.out.2.2.2.1
              rw [hfin] at hcf
              have hk1 := HC.out.1
              obtain ⟨cur, hx1, hx2, hg, hx3, hx4, hs, hx5⟩ := hown.own.opened
              have hcut := hown.cut (k := kk) (by omega)
              rw [hcf] at hcut
              have hzc : ∀ u ∈ (Builtin.zeroCells ratE.zero.cells (n - kk)).toList, ∀ d : Int, u ≠ .int .u32 d := ratE_clean.zeros _
              have hbey := hcut.beyond (Builtin.zeroCells ratE.zero.cells (n - kk)).toList (kk * 4) (Nat.le_refl _) hzc
              have hbb := but_setCells (Builtin.zeroCells ratE.zero.cells (n - kk)).toList (kk * 4) wr hbut
              have hdb := hdig.trans (hown.digSet (Builtin.zeroCells ratE.zero.cells (n - kk)).toList (kk * 4))
              have hs4 : cur.size = cap * 4 := hs
              have hcl2 : ∀ ty, (Builtin.clear_ #[81] ty #[.slice (some ⟨g, kk * 4, none⟩) (n - kk) (cap - kk)]).run Tryz.prog wr = .ok (.tuple #[]) (wr.setCells g (kk * 4) (Builtin.zeroCells ratE.zero.cells (n - kk)).toList) :=
                fun ty => run_clear_rat wr ty g _ _ _ (by omega) (fun t ht => by rw [hg.cell, Array.getElem?_eq_getElem (by omega)]; rfl) (fun t ht => hg.frozen _)
              generalize (Builtin.zeroCells ratE.zero.cells (n - kk)).toList = zz at hzc hbey hbb hdb hcl2
              have p1 : kk ≤ n := by omega
              have p2 : kk ≤ cap := by omega
              have p3 : (cap = kk) = False := eq_false (by omega)
              have HBE := Lib.hid hbey
              have HBB := Lib.hid hbb
              have HDB := Lib.hid hdb
              clear hbey hbb hdb hcut hcf hfin hkm hs hs4 hg hx1 hx2 hx3 hx4 hx5 hown hbut hdig hkk hcl hnk hzc heg
              go_wp2
              go_ret
              exact ⟨kk, rfl, HBE.out, HBB.out, HDB.out⟩
      · have hfin : l.take k = l := List.take_of_length_le (by rw [← HN.out]; omega)
        have hcc := HK.out
        rw [hfin] at hcc
        have HC := Lib.hid hcc
        clear hfin hcc heg
        go_wp2
        go_ret
        exact ⟨n, rfl, by rw [HC.out]; exact hown, hbut, hdig⟩
theorem ratCmp_enter (args : Array Value) (w : World) : (callFunc 11 args).run Tryz.prog w = .ok (.enter 11 args) w := enters_of Tryz.func11 (by kernel_rfl) rfl _ _
/-- what rising hands back: the values in order, each once; the row lies where it lay -/
def RisingPost (w : World) (B : Nat) (v : Value) (l : List RQ) (e : Ending) (w' : World) : Prop := ∃ v' l', e = .returned v' ∧ OwnC ratE w' B v' l' ∧ Grown w w' v.ownBlock ∧ DigKeep w w' ∧ v'.ownBlock = v.ownBlock ∧
  (l'.map (·.q)).Pairwise (· < ·) ∧ (∀ q, q ∈ l'.map (·.q) ↔ q ∈ l.map (·.q)) ∧ (∀ x ∈ l', x ∈ l)
set_option maxHeartbeats 800000 in
theorem rising_any {w : World} {B k : Nat} {v : Value} {l : List RQ} (h : OwnC ratE w B v l) (hn : l.length ≤ 1000000) (h0 : 0 < l.length) (hx : ∀ x ∈ l, x.At w ∧ Sz k x.q) (hk : k ≤ 10000000) (hB : B ≤ w.heap.size) :
    Calls Tryz.prog 75 #[v, .func (.func 11) #[] #[]] w (RisingPost w B v l) := by
  have hE := Ext.alloc w (.cells #[.func (.func 11) #[] #[]] 43)
  have hb := Box.new w 43 #[.func (.func 11) #[] #[]]
  have HS := Lib.hid (sortRat_any (h.ext hE) (by omega) h0 (fun x hm => ⟨(hx x hm).1.ext hE, (hx x hm).2⟩) hk)
  obtain ⟨g, cap, rfl, hg, hcap⟩ := h.own.head h0
  have HX := Lib.hid hx
  generalize hln : l.length = n at *
  have hgw := (h.lt (g := g) rfl).2
  clear h hx h0
  go_enter Tryz.func75, Tryz.ntmps75
  go_wp2_with fail
  refine HS.out.mono ?_
  rintro e w1 ⟨rfl, l1, hp, hup, hown, hgr, hdg⟩
  have hb1 := boxGrown hb hgr (fun e => by simp only [Value.ownBlock, Option.some.injEq] at e; omega)
  have hX : ∀ x ∈ l1, x.At w1 ∧ Sz k x.q := fun x hm => by
    obtain ⟨a1, a2⟩ := HX.out x (hp.mem_iff.1 hm)
    exact ⟨(a1.ext hE).dk hdg, a2⟩
  have HC := Lib.hid (cCompact_any (k0 := k) (bf := w.heap.size) hown (by omega) hX (by omega) hb1)
  have HP := Lib.hid hp
  have HUP := Lib.hid hup
  clear hown hX hp hup hb hb1 HS HX
  go_wp2_with fail
  refine HC.out.mono ?_
  rintro e w2 ⟨m, rfl, hown, hbut, hdig⟩
  clear HC
  obtain ⟨c1, c2, c3⟩ := compactR_up l1 HUP.out
  have HR := Lib.hid (show (∀ q, q ∈ (compactR l1).map (·.q) ↔ q ∈ l.map (·.q)) ∧ ∀ x ∈ compactR l1, x ∈ l from ⟨fun q => (c2 q).trans ((HP.out.map (·.q)).mem_iff), fun x hm => HP.out.mem_iff.1 (compactR_mem l1 x hm)⟩)
  have HU := Lib.hid (show ((compactR l1).map (·.q)).Pairwise (· < ·) from List.pairwise_map.2 c1)
  have hgg : Grown w w2 (some g) := by
    have h1 := hgr
    refine ⟨⟨hbut.os.trans (h1.os.trans (Below.os hE.1)), hbut.tape.trans (h1.tape.trans (Below.tape hE.1)), hbut.output.trans (h1.output.trans (Below.output hE.1)), Nat.le_trans hE.size (Nat.le_trans h1.size hbut.size), fun i hi hne => ?_⟩, Nat.le_trans hE.2 (Nat.le_trans h1.drawn hbut.drawn)⟩
    have hs1 := hE.size
    have hs2 := h1.size
    exact (hbut.block i (by omega) (fun e => hne (by rw [e]))).trans ((h1.block i (by omega) (fun e => hne (by simpa [Value.ownBlock] using e))).trans (Below.block hE.1 i hi))
  have hdd := (DigKeep.ext hE).trans (hdg.trans hdig)
  clear c1 c2 c3 HP HUP hgr hdg hbut hdig
  go_wp2
  go_ret
  exact ⟨_, compactR l1, rfl, hown, hgg, hdd, rfl, HU.out, HR.out.1, HR.out.2⟩
end Go.Proofs.YtodefmfgoehkhaaGreat
