/- RegionOutlineWinding: the walk. -/
import Derived.Test.YtkjpcjmbhpfelaaRgWinW
import Derived.Test.YtkjpcjmbhpfelaaRgEx
set_option linter.unusedVariables false
set_option linter.unusedSimpArgs false
namespace Go.Proofs.Ytkjpcjmbhpfelaa
open Go.RowKit Go.Par Go.Reg

def areaO (R : List Crn) : Int := cycTo fA R R.length
theorem areaO_bd {O : List (List Crn)} (h : ∀ R ∈ O, R ≠ [] ∧ ∀ x ∈ R, (-4096 ≤ x.1 ∧ x.1 ≤ 4096) ∧ (-4096 ≤ x.2.1 ∧ x.2.1 ≤ 4096)) (k : Nat) (hk : k ≤ O.length) (hs : sumL (O.map fun R => (R.length : Int)) ≤ 2101248) : -70506183131136 ≤ upTo areaO O k ∧ upTo areaO O k ≤ 70506183131136 := by
  have h1 := upTo_bd areaO 33554432 (O := O) (fun R hR => by have := fA_bd (h R hR).1 (h R hR).2 R.length (Nat.le_refl _); unfold areaO; omega) k hk
  have h2 := upTo_len O k
  omega
theorem areaO_sum {S : Pix} {L : List R4} {O : List (List Crn)} (hL : RegionOf S L) (hw : InWin S) (ho : OutOf S O) (hs : OutSum L O) : sumL (O.map areaO) = 2 * pixCount S := by
  rw [← edges_area hL hw, ← hs.1 f2 adds_f2]
  exact sumL_congr fun R hR => ring_area (ho.ring R hR).cyc (ho.ring R hR).ne
theorem winO_sum {S : Pix} {L : List R4} {O : List (List Crn)} (hL : RegionOf S L) (hw : InWin S) (hs : OutSum L O) (X Y : Int) : sumL (O.map (winR X Y)) = Go.Reg.one (S X Y) := by
  rw [← edges_win hL hw X Y, ← hs.1 (fW X Y) (adds_fW X Y)]
  rfl
set_option maxRecDepth 100000 in
set_option maxHeartbeats 6400000 in
theorem outlineWinding_any (l : List R4) (A : Option Addr) (n c : Nat) (x y : Int) (w : World) (hn : l.length = n) (h1 : rectE.At w A l) (hx : -128 ≤ x ∧ x ≤ 127) (hy : -128 ≤ y ∧ y ≤ 127) :
    Calls Try.prog 12 #[.slice A n c, .int .i8 x, .int .i8 y] w fun e w' => e = .returned (.bool true) ∧ Ext w w' := by
  go_enter Try.func12, Try.ntmps12
  go_wp2_with fail
  refine (few_any _ _ _ _ _ _ _).mono ?_
  rintro e w0 ⟨rfl, rfl⟩
  by_cases hf : n ≤ 24 ∧ 0 ≤ 24
  rotate_left
  · rw [decide_eq_false hf]
    clear hf hn h1
    go_wp2_with fail
    refine (example_any _).mono ?_
    rintro e w1 ⟨rfl, hE⟩
    go_wp2
    go_ret
    exact ⟨rfl, hE⟩
  · rw [decide_eq_true hf]
    have q1 : IntKind.i64.wrap x = x := IntWalk.i64_in _ (by omega)
    have q2 : IntKind.i64.wrap y = y := IntWalk.i64_in _ (by omega)
    have HEX := Lib.hid (fun W (k : Ext w W) => example_any W)
    have HN1 := Lib.hid (fun (W : World) (k : Ext w W) => outline_any l A n c W hn (by omega) (h1.ext k))
    have HA1 := Lib.hid (fun (W : World) (k : Ext w W) => Area_any l A n c W hn (by omega) (h1.ext k))
    have HB0 := Lib.hid (fun (W : World) (k : Ext w W) => pContains_any l A n c x y W hn (by omega) (h1.ext k))
    have HBX := Lib.hid hx
    have HBY := Lib.hid hy
    clear hn h1 hf hx hy
    go_wp2_with fail
    refine (HN1.out _ (Ext.refl _)).mono ?_
    rintro e w1 ⟨v1, r1, rfl, hE1, L, hL, hres⟩
    obtain ⟨k1, rfl, A1, N, c1, T, rfl, hTN, hNb, k2, hat, hrows, hO, hS⟩ | ⟨k1, rfl, rfl⟩ := hres
    rotate_left
    · clear hL k1 HN1 HA1 HB0 q1 q2
      go_wp2_with (((go_at_call 14; with_reducible refine (HEX.out _ hE1).mono ?_); rintro e w9 ⟨rfl, k9⟩; replace hE1 := hE1.trans k9; clear k9))
      go_ret
      exact ⟨ret_eq (by simp), hE1⟩
    · have HAS := Lib.hid (areaO_sum hL (inL_win l) hO hS)
      have HWS := Lib.hid (winO_sum hL (inL_win l) hS x y)
      have pb := pixCount_bd (inL l)
      have HRT := Lib.hid (fun R hR => ring_turn (hO.ring R hR).cyc (hO.ring R hR).ne)
      have HRE := Lib.hid (fun R hR => ring_even (hO.ring R hR).cyc (hO.ring R hR).ne)
      have HTL := Lib.hid hTN
      have HRW := Lib.hid hrows
      have HBD := Lib.hid (fun k (hk : k ≤ N) => areaO_bd (O := T.map fun t => t.2) (fun R hR => by obtain ⟨t, ht, rfl⟩ := List.mem_map.1 hR; exact ⟨(hrows t ht).2.2.1, (hrows t ht).2.2.2.1⟩) k (by rw [List.length_map, hTN]; exact hk) hS.2)
      have HSL := Lib.hid hS.2
      have HWD := Lib.hid (fun (W : World) (k : Ext w1 W) => rWinding_any T A1 N c1 x y (256 * x + 128) (256 * y + 128) W hTN hNb (hat.ext k) (fun t ht => (hrows t ht).ext k) hS.2 rfl rfl (by have := HBX.out; omega) (by have := HBY.out; omega))
      rw [HWS.out] at HWD
      replace HEX := Lib.hid (fun W (k : Ext w1 W) => HEX.out W (hE1.trans k))
      replace HA1 := Lib.hid (fun W (k : Ext w1 W) => HA1.out W (hE1.trans k))
      replace HB0 := Lib.hid (fun W (k : Ext w1 W) => HB0.out W (hE1.trans k))
      have HE1 := Lib.hid hE1
      have wa : IntKind.i64.wrap (256 * x) = 256 * x := IntWalk.i64_in _ (by have := HBX.out; omega)
      have wb : IntKind.i64.wrap (256 * x + 128) = 256 * x + 128 := IntWalk.i64_in _ (by have := HBX.out; omega)
      have wc : IntKind.i64.wrap (256 * y) = 256 * y := IntWalk.i64_in _ (by have := HBY.out; omega)
      have wd : IntKind.i64.wrap (256 * y + 128) = 256 * y + 128 := IntWalk.i64_in _ (by have := HBY.out; omega)
      clear hL hO hS hrows hTN hE1 HN1
      generalize pixCount (inL l) = pa at *
      generalize inL l x y = b0 at *
      go_wp2_with fail
      go_loopw [9, 10] (fun s i wr => ∃ k : Nat, k ≤ N ∧ i = .int .i64 k ∧ s = .int .i64 (65536 * upTo areaO (T.map fun t => t.2) k) ∧ Ext w1 wr) (fun _ i _ => N - (intOf i).toNat)
      case atStart => exact ⟨0, Nat.zero_le _, rfl, by rw [upTo_zero]; rfl, Ext.refl _⟩
      case round =>
        obtain ⟨i, hi, rfl, rfl, hE⟩ := hrel
        by_cases hlt : i < N
        · have di : ((i : Int) < (N : Int)) = True := eq_true (by omega)
          obtain ⟨⟨⟨A', m, c'⟩, R⟩, hti⟩ : ∃ t, T[i]? = some t := ⟨_, List.getElem?_eq_getElem (by rw [HTL.out]; exact hlt)⟩
          have htm := List.mem_of_getElem? hti
          obtain ⟨s1, s2, s3, s4, s5⟩ := HRW.out _ htm
          dsimp only at s1 s2 s3 s4 s5
          have hR : R ∈ T.map fun t => t.2 := List.mem_map.2 ⟨_, htm, rfl⟩
          have HTN := Lib.hid (HRT.out R hR)
          obtain ⟨hev, h4⟩ := HRE.out R hR
          rw [s1] at hev h4
          have hk1 : (T.map fun t => t.1)[i]? = some (A', m, c') := by rw [List.getElem?_map, hti]; rfl
          have hk2 : (T.map fun t => t.2)[i]? = some R := by rw [List.getElem?_map, hti]; rfl
          obtain ⟨bo, oo, rfl⟩ := hat.addr hk1
          have e0 := pts_cell hat hk1
          dsimp only at e0
          have hmb : m ≤ 2101248 := by
            have h9 := upTo_len (T.map fun t => t.2) (i + 1)
            rw [upTo_succ _ hk2] at h9
            have h8 := upTo_len (T.map fun t => t.2) i
            have h7 := HBD.out
            rw [s1] at h9
            have := HSL.out
            omega
          have HUP := Lib.hid (upTo_succ areaO hk2)
          have hbd1 := HBD.out (i + 1) hlt
          rw [HUP.out, show areaO R = cycTo fA R R.length from rfl, s1] at hbd1
          have HDA := Lib.hid (fun (W : World) (k : Ext w1 W) => rDouble_any R A' m c' W s1 hmb s3 s4 (s5.at.ext k))
          have hatR := s5.at
          have HNX := Lib.hid (fun k => nx_get s3 k)
          rw [s1] at HNX
          have HAR := Lib.hid (show areaO R = cycTo fA R m from by unfold areaO; rw [s1])
          generalize upTo areaO (T.map fun t => t.2) i = u at *
          have m5 : (m : Int).tmod 2 = 0 := by rw [show (m : Int).tmod 2 = ((m % 2 : Nat) : Int) from rfl, hev]; rfl
          have m6 : (m : Int) % 2 = 0 := by omega
          have d4 : ((m : Int) < 4) = False := eq_false (by omega)
          have x0 := hE.cell e0
          clear hti htm s1 s3 s4 s5 hR hk1 hk2 hev
          go_wp2_with fail
          clear x0
          go_loopw [12] (fun j wz => ∃ k : Nat, k ≤ m ∧ j = .int .i64 k ∧ Ext w1 wz) (fun j _ => m - (intOf j).toNat)
          case atStart => exact ⟨0, Nat.zero_le _, rfl, hE⟩
          case round =>
            clear hE
            obtain ⟨k, hk, rfl, hE⟩ := hrel
            have x0 := hE.cell e0
            by_cases hlt2 : k < m
            · have dk2 : ((k : Int) < (m : Int)) = True := eq_true (by omega)
              obtain ⟨j, hj⟩ : ∃ j, j = (k + 1) % m := ⟨_, rfl⟩
              obtain ⟨j2, hj2⟩ : ∃ j, j = (k + 2) % m := ⟨_, rfl⟩
              have hjm : j < m := by rw [hj]; exact Nat.mod_lt _ (by omega)
              have hjm2 : j2 < m := by rw [hj2]; exact Nat.mod_lt _ (by omega)
              have hp := HNX.out k
              rw [Nat.mod_eq_of_lt hlt2] at hp
              have hq := HNX.out (k + 1)
              rw [← hj] at hq
              have hr := HNX.out (k + 2)
              rw [← hj2] at hr
              have htn := HTN.out k
              generalize nx R k = p at *
              generalize nx R (k + 1) = q at *
              generalize nx R (k + 2) = r at *
              obtain ⟨p1, p2, pd⟩ := p
              obtain ⟨q1, q2, qd⟩ := q
              obtain ⟨r1, r2, rd⟩ := r
              dsimp only at htn
              have hpm : (R.map scl)[k]? = some (p1 * 256, p2 * 256) := by rw [List.getElem?_map, hp]; rfl
              have hqm : (R.map scl)[j]? = some (q1 * 256, q2 * 256) := by rw [List.getElem?_map, hq]; rfl
              have hrm : (R.map scl)[j2]? = some (r1 * 256, r2 * 256) := by rw [List.getElem?_map, hr]; rfl
              obtain ⟨b, o, rfl⟩ := hatR.addr hpm
              obtain ⟨y0, y1⟩ := pt_cell hatR hpm
              obtain ⟨z0, z1⟩ := pt_cell hatR hqm
              obtain ⟨u0, u1⟩ := pt_cell hatR hrm
              replace y0 := hE.cell y0
              replace y1 := hE.cell y1
              replace z0 := hE.cell z0
              replace z1 := hE.cell z1
              replace u0 := hE.cell u0
              replace u1 := hE.cell u1
              have m1 := tmod_nat (a := k + 1) (n := m) (x := (k : Int) + 1) (by omega)
              have m2 := emod_nat (a := k + 1) (n := m) (x := (k : Int) + 1) (by omega)
              have m3 := tmod_nat (a := k + 2) (n := m) (x := (k : Int) + 2) (by omega)
              have m4 := emod_nat (a := k + 2) (n := m) (x := (k : Int) + 2) (by omega)
              rw [← hj] at m1 m2
              rw [← hj2] at m3 m4
              have q3 : ¬ m = 0 := by omega
              have w7 : IntKind.i64.wrap ((k : Int) + 1) = (k : Int) + 1 := IntWalk.i64_in _ (by omega)
              have w8 : IntKind.i64.wrap ((k : Int) + 2) = (k : Int) + 2 := IntWalk.i64_in _ (by omega)
              have HS7 := Lib.hid (fun W (k9 : Ext wr W) => (⟨k9.cell x0, k9.cell y0, k9.cell y1, k9.cell z0, k9.cell z1, k9.cell u0, k9.cell u1⟩ : W.cell? ⟨bo, oo + i, none⟩ = some (.slice (some ⟨b, o, none⟩) m c') ∧ W.cell? ⟨b, o + k * 2, none⟩ = some (.int .i64 (p1 * 256)) ∧ W.cell? ⟨b, o + k * 2 + 1, none⟩ = some (.int .i64 (p2 * 256)) ∧ W.cell? ⟨b, o + j * 2, none⟩ = some (.int .i64 (q1 * 256)) ∧ W.cell? ⟨b, o + j * 2 + 1, none⟩ = some (.int .i64 (q2 * 256)) ∧ W.cell? ⟨b, o + j2 * 2, none⟩ = some (.int .i64 (r1 * 256)) ∧ W.cell? ⟨b, o + j2 * 2 + 1, none⟩ = some (.int .i64 (r2 * 256))))
              clear hp hq hr hpm hqm hrm hj hj2
              go_wp2_with fail
              go_region_held3 (fun w' => w'.cell? ⟨bo, oo + i, none⟩ = some (.slice (some ⟨b, o, none⟩) m c') ∧ w'.cell? ⟨b, o + k * 2, none⟩ = some (.int .i64 (p1 * 256)) ∧ w'.cell? ⟨b, o + k * 2 + 1, none⟩ = some (.int .i64 (p2 * 256)) ∧ w'.cell? ⟨b, o + j * 2, none⟩ = some (.int .i64 (q1 * 256)) ∧ w'.cell? ⟨b, o + j * 2 + 1, none⟩ = some (.int .i64 (q2 * 256)) ∧ w'.cell? ⟨b, o + j2 * 2, none⟩ = some (.int .i64 (r1 * 256)) ∧ w'.cell? ⟨b, o + j2 * 2 + 1, none⟩ = some (.int .i64 (r2 * 256))) (exact HS7.out _ (by repeat (first | exact Ext.refl _ | refine Ext.trans ?_ (Ext.drew _) | refine Ext.trans ?_ (Ext.alloc _ _)))) (fail)
              · rename_i hHeld
                have b13 := ((((Box.new wr 54 #[.int .i64 (p1 * 256), .int .i64 (p2 * 256)]).alloc (.cells #[.int .i64 (q1 * 256), .int .i64 (q2 * 256)] 54)).alloc (.cells #[.int .i64 (r1 * 256), .int .i64 (r2 * 256)] 54)).drew)
                have b14 := (((Box.at1 (w := wr) (o := (.cells #[.int .i64 (p1 * 256), .int .i64 (p2 * 256)] 54)) (t := 54) (cs := #[.int .i64 (q1 * 256), .int .i64 (q2 * 256)])).alloc (.cells #[.int .i64 (r1 * 256), .int .i64 (r2 * 256)] 54)).drew)
                have b15 := (Box.at2 (w := wr) (o := (.cells #[.int .i64 (p1 * 256), .int .i64 (p2 * 256)] 54)) (o' := (.cells #[.int .i64 (q1 * 256), .int .i64 (q2 * 256)] 54)) (t := 54) (cs := #[.int .i64 (r1 * 256), .int .i64 (r2 * 256)])).drew
                replace hE := ((((hE.trans (Ext.alloc wr (.cells #[.int .i64 (p1 * 256), .int .i64 (p2 * 256)] 54))).trans (Ext.alloc _ (.cells #[.int .i64 (q1 * 256), .int .i64 (q2 * 256)] 54))).trans (Ext.alloc _ (.cells #[.int .i64 (r1 * 256), .int .i64 (r2 * 256)] 54))).trans (Ext.drew _))
                clear hHeld
                generalize World.drew _ = W at *
                have c13 := b13.cell
                have c14 := b14.cell
                have c15 := b15.cell
                clear x0 y0 y1 z0 z1 u0 u1 m1 m2 m3 m4
                generalize wr.heap.size + 1 + 1 = B6 at *
                generalize wr.heap.size + 1 = B5 at *
                generalize wr.heap.size = B4 at *
                rcases htn with ⟨t1, t2, t3, t4⟩ | ⟨t1, t2, t3, t4⟩
                · have v1 : (p2 * 256 == q2 * 256) = true := by rw [beq_iff_eq]; omega
                  have v2 : (p1 * 256 != q1 * 256) = true := by rw [bne_iff_ne]; omega
                  have v3 : (q1 * 256 == r1 * 256) = true := by rw [beq_iff_eq]; omega
                  have v4 : (q2 * 256 != r2 * 256) = true := by rw [bne_iff_ne]; omega
                  have v5 : (p1 * 256 == q1 * 256) = false := by rw [beq_eq_false_iff_ne]; omega
                  clear t1 t2 t3 t4
                  generalize p1 * 256 = a1 at *
                  generalize p2 * 256 = a2 at *
                  generalize q1 * 256 = d1 at *
                  generalize q2 * 256 = d2 at *
                  generalize r1 * 256 = g1 at *
                  generalize r2 * 256 = g2 at *
                  go_wp2
                  go_roundw
                  case rel => exact ⟨k + 1, by omega, by go_num, hE⟩
                  case measure => simp [intOf]; omega
                · have v1 : (p2 * 256 == q2 * 256) = false := by rw [beq_eq_false_iff_ne]; omega
                  have v2 : (p1 * 256 == q1 * 256) = true := by rw [beq_iff_eq]; omega
                  have v3 : (p2 * 256 != q2 * 256) = true := by rw [bne_iff_ne]; omega
                  have v4 : (q2 * 256 == r2 * 256) = true := by rw [beq_iff_eq]; omega
                  have v5 : (q1 * 256 != r1 * 256) = true := by rw [bne_iff_ne]; omega
                  clear t1 t2 t3 t4
                  generalize p1 * 256 = a1 at *
                  generalize p2 * 256 = a2 at *
                  generalize q1 * 256 = d1 at *
                  generalize q2 * 256 = d2 at *
                  generalize r1 * 256 = g1 at *
                  generalize r2 * 256 = g2 at *
                  go_wp2
                  go_roundw
                  case rel => exact ⟨k + 1, by omega, by go_num, hE⟩
                  case measure => simp [intOf]; omega
              · rename_i hHeld
                have b13 := ((((Box.new wr 54 #[.int .i64 (p1 * 256), .int .i64 (p2 * 256)]).alloc (.cells #[.int .i64 (r1 * 256), .int .i64 (r2 * 256)] 54)).alloc (.cells #[.int .i64 (q1 * 256), .int .i64 (q2 * 256)] 54)).drew)
                have b15 := (((Box.at1 (w := wr) (o := (.cells #[.int .i64 (p1 * 256), .int .i64 (p2 * 256)] 54)) (t := 54) (cs := #[.int .i64 (r1 * 256), .int .i64 (r2 * 256)])).alloc (.cells #[.int .i64 (q1 * 256), .int .i64 (q2 * 256)] 54)).drew)
                have b14 := (Box.at2 (w := wr) (o := (.cells #[.int .i64 (p1 * 256), .int .i64 (p2 * 256)] 54)) (o' := (.cells #[.int .i64 (r1 * 256), .int .i64 (r2 * 256)] 54)) (t := 54) (cs := #[.int .i64 (q1 * 256), .int .i64 (q2 * 256)])).drew
                replace hE := ((((hE.trans (Ext.alloc wr (.cells #[.int .i64 (p1 * 256), .int .i64 (p2 * 256)] 54))).trans (Ext.alloc _ (.cells #[.int .i64 (r1 * 256), .int .i64 (r2 * 256)] 54))).trans (Ext.alloc _ (.cells #[.int .i64 (q1 * 256), .int .i64 (q2 * 256)] 54))).trans (Ext.drew _))
                clear hHeld
                generalize World.drew _ = W at *
                have c13 := b13.cell
                have c14 := b14.cell
                have c15 := b15.cell
                clear x0 y0 y1 z0 z1 u0 u1 m1 m2 m3 m4
                generalize wr.heap.size + 1 + 1 = B6 at *
                generalize wr.heap.size + 1 = B5 at *
                generalize wr.heap.size = B4 at *
                rcases htn with ⟨t1, t2, t3, t4⟩ | ⟨t1, t2, t3, t4⟩
                · have v1 : (p2 * 256 == q2 * 256) = true := by rw [beq_iff_eq]; omega
                  have v2 : (p1 * 256 != q1 * 256) = true := by rw [bne_iff_ne]; omega
                  have v3 : (q1 * 256 == r1 * 256) = true := by rw [beq_iff_eq]; omega
                  have v4 : (q2 * 256 != r2 * 256) = true := by rw [bne_iff_ne]; omega
                  have v5 : (p1 * 256 == q1 * 256) = false := by rw [beq_eq_false_iff_ne]; omega
                  clear t1 t2 t3 t4
                  generalize p1 * 256 = a1 at *
                  generalize p2 * 256 = a2 at *
                  generalize q1 * 256 = d1 at *
                  generalize q2 * 256 = d2 at *
                  generalize r1 * 256 = g1 at *
                  generalize r2 * 256 = g2 at *
                  go_wp2
                  go_roundw
                  case rel => exact ⟨k + 1, by omega, by go_num, hE⟩
                  case measure => simp [intOf]; omega
                · have v1 : (p2 * 256 == q2 * 256) = false := by rw [beq_eq_false_iff_ne]; omega
                  have v2 : (p1 * 256 == q1 * 256) = true := by rw [beq_iff_eq]; omega
                  have v3 : (p2 * 256 != q2 * 256) = true := by rw [bne_iff_ne]; omega
                  have v4 : (q2 * 256 == r2 * 256) = true := by rw [beq_iff_eq]; omega
                  have v5 : (q1 * 256 != r1 * 256) = true := by rw [bne_iff_ne]; omega
                  clear t1 t2 t3 t4
                  generalize p1 * 256 = a1 at *
                  generalize p2 * 256 = a2 at *
                  generalize q1 * 256 = d1 at *
                  generalize q2 * 256 = d2 at *
                  generalize r1 * 256 = g1 at *
                  generalize r2 * 256 = g2 at *
                  go_wp2
                  go_roundw
                  case rel => exact ⟨k + 1, by omega, by go_num, hE⟩
                  case measure => simp [intOf]; omega
              · rename_i hHeld
                have b14 := ((((Box.new wr 54 #[.int .i64 (q1 * 256), .int .i64 (q2 * 256)]).alloc (.cells #[.int .i64 (p1 * 256), .int .i64 (p2 * 256)] 54)).alloc (.cells #[.int .i64 (r1 * 256), .int .i64 (r2 * 256)] 54)).drew)
                have b13 := (((Box.at1 (w := wr) (o := (.cells #[.int .i64 (q1 * 256), .int .i64 (q2 * 256)] 54)) (t := 54) (cs := #[.int .i64 (p1 * 256), .int .i64 (p2 * 256)])).alloc (.cells #[.int .i64 (r1 * 256), .int .i64 (r2 * 256)] 54)).drew)
                have b15 := (Box.at2 (w := wr) (o := (.cells #[.int .i64 (q1 * 256), .int .i64 (q2 * 256)] 54)) (o' := (.cells #[.int .i64 (p1 * 256), .int .i64 (p2 * 256)] 54)) (t := 54) (cs := #[.int .i64 (r1 * 256), .int .i64 (r2 * 256)])).drew
                replace hE := ((((hE.trans (Ext.alloc wr (.cells #[.int .i64 (q1 * 256), .int .i64 (q2 * 256)] 54))).trans (Ext.alloc _ (.cells #[.int .i64 (p1 * 256), .int .i64 (p2 * 256)] 54))).trans (Ext.alloc _ (.cells #[.int .i64 (r1 * 256), .int .i64 (r2 * 256)] 54))).trans (Ext.drew _))
                clear hHeld
                generalize World.drew _ = W at *
                have c13 := b13.cell
                have c14 := b14.cell
                have c15 := b15.cell
                clear x0 y0 y1 z0 z1 u0 u1 m1 m2 m3 m4
                generalize wr.heap.size + 1 + 1 = B6 at *
                generalize wr.heap.size + 1 = B5 at *
                generalize wr.heap.size = B4 at *
                rcases htn with ⟨t1, t2, t3, t4⟩ | ⟨t1, t2, t3, t4⟩
                · have v1 : (p2 * 256 == q2 * 256) = true := by rw [beq_iff_eq]; omega
                  have v2 : (p1 * 256 != q1 * 256) = true := by rw [bne_iff_ne]; omega
                  have v3 : (q1 * 256 == r1 * 256) = true := by rw [beq_iff_eq]; omega
                  have v4 : (q2 * 256 != r2 * 256) = true := by rw [bne_iff_ne]; omega
                  have v5 : (p1 * 256 == q1 * 256) = false := by rw [beq_eq_false_iff_ne]; omega
                  clear t1 t2 t3 t4
                  generalize p1 * 256 = a1 at *
                  generalize p2 * 256 = a2 at *
                  generalize q1 * 256 = d1 at *
                  generalize q2 * 256 = d2 at *
                  generalize r1 * 256 = g1 at *
                  generalize r2 * 256 = g2 at *
                  go_wp2
                  go_roundw
                  case rel => exact ⟨k + 1, by omega, by go_num, hE⟩
                  case measure => simp [intOf]; omega
                · have v1 : (p2 * 256 == q2 * 256) = false := by rw [beq_eq_false_iff_ne]; omega
                  have v2 : (p1 * 256 == q1 * 256) = true := by rw [beq_iff_eq]; omega
                  have v3 : (p2 * 256 != q2 * 256) = true := by rw [bne_iff_ne]; omega
                  have v4 : (q2 * 256 == r2 * 256) = true := by rw [beq_iff_eq]; omega
                  have v5 : (q1 * 256 != r1 * 256) = true := by rw [bne_iff_ne]; omega
                  clear t1 t2 t3 t4
                  generalize p1 * 256 = a1 at *
                  generalize p2 * 256 = a2 at *
                  generalize q1 * 256 = d1 at *
                  generalize q2 * 256 = d2 at *
                  generalize r1 * 256 = g1 at *
                  generalize r2 * 256 = g2 at *
                  go_wp2
                  go_roundw
                  case rel => exact ⟨k + 1, by omega, by go_num, hE⟩
                  case measure => simp [intOf]; omega
              · rename_i hHeld
                have b14 := ((((Box.new wr 54 #[.int .i64 (q1 * 256), .int .i64 (q2 * 256)]).alloc (.cells #[.int .i64 (r1 * 256), .int .i64 (r2 * 256)] 54)).alloc (.cells #[.int .i64 (p1 * 256), .int .i64 (p2 * 256)] 54)).drew)
                have b15 := (((Box.at1 (w := wr) (o := (.cells #[.int .i64 (q1 * 256), .int .i64 (q2 * 256)] 54)) (t := 54) (cs := #[.int .i64 (r1 * 256), .int .i64 (r2 * 256)])).alloc (.cells #[.int .i64 (p1 * 256), .int .i64 (p2 * 256)] 54)).drew)
                have b13 := (Box.at2 (w := wr) (o := (.cells #[.int .i64 (q1 * 256), .int .i64 (q2 * 256)] 54)) (o' := (.cells #[.int .i64 (r1 * 256), .int .i64 (r2 * 256)] 54)) (t := 54) (cs := #[.int .i64 (p1 * 256), .int .i64 (p2 * 256)])).drew
                replace hE := ((((hE.trans (Ext.alloc wr (.cells #[.int .i64 (q1 * 256), .int .i64 (q2 * 256)] 54))).trans (Ext.alloc _ (.cells #[.int .i64 (r1 * 256), .int .i64 (r2 * 256)] 54))).trans (Ext.alloc _ (.cells #[.int .i64 (p1 * 256), .int .i64 (p2 * 256)] 54))).trans (Ext.drew _))
                clear hHeld
                generalize World.drew _ = W at *
                have c13 := b13.cell
                have c14 := b14.cell
                have c15 := b15.cell
                clear x0 y0 y1 z0 z1 u0 u1 m1 m2 m3 m4
                generalize wr.heap.size + 1 + 1 = B6 at *
                generalize wr.heap.size + 1 = B5 at *
                generalize wr.heap.size = B4 at *
                rcases htn with ⟨t1, t2, t3, t4⟩ | ⟨t1, t2, t3, t4⟩
                · have v1 : (p2 * 256 == q2 * 256) = true := by rw [beq_iff_eq]; omega
                  have v2 : (p1 * 256 != q1 * 256) = true := by rw [bne_iff_ne]; omega
                  have v3 : (q1 * 256 == r1 * 256) = true := by rw [beq_iff_eq]; omega
                  have v4 : (q2 * 256 != r2 * 256) = true := by rw [bne_iff_ne]; omega
                  have v5 : (p1 * 256 == q1 * 256) = false := by rw [beq_eq_false_iff_ne]; omega
                  clear t1 t2 t3 t4
                  generalize p1 * 256 = a1 at *
                  generalize p2 * 256 = a2 at *
                  generalize q1 * 256 = d1 at *
                  generalize q2 * 256 = d2 at *
                  generalize r1 * 256 = g1 at *
                  generalize r2 * 256 = g2 at *
                  go_wp2
                  go_roundw
                  case rel => exact ⟨k + 1, by omega, by go_num, hE⟩
                  case measure => simp [intOf]; omega
                · have v1 : (p2 * 256 == q2 * 256) = false := by rw [beq_eq_false_iff_ne]; omega
                  have v2 : (p1 * 256 == q1 * 256) = true := by rw [beq_iff_eq]; omega
                  have v3 : (p2 * 256 != q2 * 256) = true := by rw [bne_iff_ne]; omega
                  have v4 : (q2 * 256 == r2 * 256) = true := by rw [beq_iff_eq]; omega
                  have v5 : (q1 * 256 != r1 * 256) = true := by rw [bne_iff_ne]; omega
                  clear t1 t2 t3 t4
                  generalize p1 * 256 = a1 at *
                  generalize p2 * 256 = a2 at *
                  generalize q1 * 256 = d1 at *
                  generalize q2 * 256 = d2 at *
                  generalize r1 * 256 = g1 at *
                  generalize r2 * 256 = g2 at *
                  go_wp2
                  go_roundw
                  case rel => exact ⟨k + 1, by omega, by go_num, hE⟩
                  case measure => simp [intOf]; omega
              · rename_i hHeld
                have b15 := ((((Box.new wr 54 #[.int .i64 (r1 * 256), .int .i64 (r2 * 256)]).alloc (.cells #[.int .i64 (p1 * 256), .int .i64 (p2 * 256)] 54)).alloc (.cells #[.int .i64 (q1 * 256), .int .i64 (q2 * 256)] 54)).drew)
                have b13 := (((Box.at1 (w := wr) (o := (.cells #[.int .i64 (r1 * 256), .int .i64 (r2 * 256)] 54)) (t := 54) (cs := #[.int .i64 (p1 * 256), .int .i64 (p2 * 256)])).alloc (.cells #[.int .i64 (q1 * 256), .int .i64 (q2 * 256)] 54)).drew)
                have b14 := (Box.at2 (w := wr) (o := (.cells #[.int .i64 (r1 * 256), .int .i64 (r2 * 256)] 54)) (o' := (.cells #[.int .i64 (p1 * 256), .int .i64 (p2 * 256)] 54)) (t := 54) (cs := #[.int .i64 (q1 * 256), .int .i64 (q2 * 256)])).drew
                replace hE := ((((hE.trans (Ext.alloc wr (.cells #[.int .i64 (r1 * 256), .int .i64 (r2 * 256)] 54))).trans (Ext.alloc _ (.cells #[.int .i64 (p1 * 256), .int .i64 (p2 * 256)] 54))).trans (Ext.alloc _ (.cells #[.int .i64 (q1 * 256), .int .i64 (q2 * 256)] 54))).trans (Ext.drew _))
                clear hHeld
                generalize World.drew _ = W at *
                have c13 := b13.cell
                have c14 := b14.cell
                have c15 := b15.cell
                clear x0 y0 y1 z0 z1 u0 u1 m1 m2 m3 m4
                generalize wr.heap.size + 1 + 1 = B6 at *
                generalize wr.heap.size + 1 = B5 at *
                generalize wr.heap.size = B4 at *
                rcases htn with ⟨t1, t2, t3, t4⟩ | ⟨t1, t2, t3, t4⟩
                · have v1 : (p2 * 256 == q2 * 256) = true := by rw [beq_iff_eq]; omega
                  have v2 : (p1 * 256 != q1 * 256) = true := by rw [bne_iff_ne]; omega
                  have v3 : (q1 * 256 == r1 * 256) = true := by rw [beq_iff_eq]; omega
                  have v4 : (q2 * 256 != r2 * 256) = true := by rw [bne_iff_ne]; omega
                  have v5 : (p1 * 256 == q1 * 256) = false := by rw [beq_eq_false_iff_ne]; omega
                  clear t1 t2 t3 t4
                  generalize p1 * 256 = a1 at *
                  generalize p2 * 256 = a2 at *
                  generalize q1 * 256 = d1 at *
                  generalize q2 * 256 = d2 at *
                  generalize r1 * 256 = g1 at *
                  generalize r2 * 256 = g2 at *
                  go_wp2
                  go_roundw
                  case rel => exact ⟨k + 1, by omega, by go_num, hE⟩
                  case measure => simp [intOf]; omega
                · have v1 : (p2 * 256 == q2 * 256) = false := by rw [beq_eq_false_iff_ne]; omega
                  have v2 : (p1 * 256 == q1 * 256) = true := by rw [beq_iff_eq]; omega
                  have v3 : (p2 * 256 != q2 * 256) = true := by rw [bne_iff_ne]; omega
                  have v4 : (q2 * 256 == r2 * 256) = true := by rw [beq_iff_eq]; omega
                  have v5 : (q1 * 256 != r1 * 256) = true := by rw [bne_iff_ne]; omega
                  clear t1 t2 t3 t4
                  generalize p1 * 256 = a1 at *
                  generalize p2 * 256 = a2 at *
                  generalize q1 * 256 = d1 at *
                  generalize q2 * 256 = d2 at *
                  generalize r1 * 256 = g1 at *
                  generalize r2 * 256 = g2 at *
                  go_wp2
                  go_roundw
                  case rel => exact ⟨k + 1, by omega, by go_num, hE⟩
                  case measure => simp [intOf]; omega
              · rename_i hHeld
                have b15 := ((((Box.new wr 54 #[.int .i64 (r1 * 256), .int .i64 (r2 * 256)]).alloc (.cells #[.int .i64 (q1 * 256), .int .i64 (q2 * 256)] 54)).alloc (.cells #[.int .i64 (p1 * 256), .int .i64 (p2 * 256)] 54)).drew)
                have b14 := (((Box.at1 (w := wr) (o := (.cells #[.int .i64 (r1 * 256), .int .i64 (r2 * 256)] 54)) (t := 54) (cs := #[.int .i64 (q1 * 256), .int .i64 (q2 * 256)])).alloc (.cells #[.int .i64 (p1 * 256), .int .i64 (p2 * 256)] 54)).drew)
                have b13 := (Box.at2 (w := wr) (o := (.cells #[.int .i64 (r1 * 256), .int .i64 (r2 * 256)] 54)) (o' := (.cells #[.int .i64 (q1 * 256), .int .i64 (q2 * 256)] 54)) (t := 54) (cs := #[.int .i64 (p1 * 256), .int .i64 (p2 * 256)])).drew
                replace hE := ((((hE.trans (Ext.alloc wr (.cells #[.int .i64 (r1 * 256), .int .i64 (r2 * 256)] 54))).trans (Ext.alloc _ (.cells #[.int .i64 (q1 * 256), .int .i64 (q2 * 256)] 54))).trans (Ext.alloc _ (.cells #[.int .i64 (p1 * 256), .int .i64 (p2 * 256)] 54))).trans (Ext.drew _))
                clear hHeld
                generalize World.drew _ = W at *
                have c13 := b13.cell
                have c14 := b14.cell
                have c15 := b15.cell
                clear x0 y0 y1 z0 z1 u0 u1 m1 m2 m3 m4
                generalize wr.heap.size + 1 + 1 = B6 at *
                generalize wr.heap.size + 1 = B5 at *
                generalize wr.heap.size = B4 at *
                rcases htn with ⟨t1, t2, t3, t4⟩ | ⟨t1, t2, t3, t4⟩
                · have v1 : (p2 * 256 == q2 * 256) = true := by rw [beq_iff_eq]; omega
                  have v2 : (p1 * 256 != q1 * 256) = true := by rw [bne_iff_ne]; omega
                  have v3 : (q1 * 256 == r1 * 256) = true := by rw [beq_iff_eq]; omega
                  have v4 : (q2 * 256 != r2 * 256) = true := by rw [bne_iff_ne]; omega
                  have v5 : (p1 * 256 == q1 * 256) = false := by rw [beq_eq_false_iff_ne]; omega
                  clear t1 t2 t3 t4
                  generalize p1 * 256 = a1 at *
                  generalize p2 * 256 = a2 at *
                  generalize q1 * 256 = d1 at *
                  generalize q2 * 256 = d2 at *
                  generalize r1 * 256 = g1 at *
                  generalize r2 * 256 = g2 at *
                  go_wp2
                  go_roundw
                  case rel => exact ⟨k + 1, by omega, by go_num, hE⟩
                  case measure => simp [intOf]; omega
                · have v1 : (p2 * 256 == q2 * 256) = false := by rw [beq_eq_false_iff_ne]; omega
                  have v2 : (p1 * 256 == q1 * 256) = true := by rw [beq_iff_eq]; omega
                  have v3 : (p2 * 256 != q2 * 256) = true := by rw [bne_iff_ne]; omega
                  have v4 : (q2 * 256 == r2 * 256) = true := by rw [beq_iff_eq]; omega
                  have v5 : (q1 * 256 != r1 * 256) = true := by rw [bne_iff_ne]; omega
                  clear t1 t2 t3 t4
                  generalize p1 * 256 = a1 at *
                  generalize p2 * 256 = a2 at *
                  generalize q1 * 256 = d1 at *
                  generalize q2 * 256 = d2 at *
                  generalize r1 * 256 = g1 at *
                  generalize r2 * 256 = g2 at *
                  go_wp2
                  go_roundw
                  case rel => exact ⟨k + 1, by omega, by go_num, hE⟩
                  case measure => simp [intOf]; omega
            · have dk2 : ((k : Int) < (m : Int)) = False := eq_false (by omega)
              have HV := Lib.hid (show 65536 * u + 65536 * cycTo fA R m = 65536 * upTo areaO (T.map fun t => t.2) (i + 1) from by rw [HUP.out, HAR.out, Int.mul_add])
              have w9 : IntKind.i64.wrap (65536 * u + 65536 * cycTo fA R m) = 65536 * u + 65536 * cycTo fA R m := IntWalk.i64_in _ (by omega)
              go_wp2_with (((go_at_call 41; with_reducible refine (HDA.out _ hE).mono ?_); rintro e w9 ⟨rfl, k9⟩; replace hE := hE.trans k9; clear k9))
              go_roundw
              case rel => exact ⟨i + 1, by omega, by go_num, by rw [HV.out], hE⟩
              case measure => simp [intOf]; omega
        · have di : ((i : Int) < (N : Int)) = False := eq_false (by omega)
          have hV : 65536 * upTo areaO (T.map fun t => t.2) i = 131072 * pa := by
            rw [upTo_full _ (by rw [List.length_map, HTL.out]; omega), HAS.out]
            omega
          rw [hV]
          have w5 : IntKind.i64.wrap (131072 * pa) = 131072 * pa := IntWalk.i64_in _ (by omega)
          have dp : (131072 * pa == 131072 * pa) = true := by simp
          clear hV
          cases b0
          · rw [show Go.Reg.one false = 0 from rfl] at HWD
            go_wp2_with (first
              | ((go_at_call 26; with_reducible refine (HB0.out _ hE).mono ?_); rintro e w9 ⟨rfl, k9⟩; replace hE := hE.trans k9; clear k9)
              | ((go_at_call 42; with_reducible refine (HWD.out _ (hE.trans (Ext.alloc _ _))).mono ?_); rintro e w9 ⟨rfl, k9⟩; replace hE := (hE.trans (Ext.alloc _ _)).trans k9; clear k9)
              | ((go_at_call 29; with_reducible refine (HA1.out _ hE).mono ?_); rintro e w9 ⟨rfl, k9⟩; replace hE := hE.trans k9; clear k9)
              | ((go_at_call 14; with_reducible refine (HEX.out _ hE).mono ?_); rintro e w9 ⟨rfl, k9⟩; replace hE := hE.trans k9; clear k9))
            go_ret
            exact ⟨ret_eq (by simp), HE1.out.trans hE⟩
          · rw [show Go.Reg.one true = 1 from rfl] at HWD
            go_wp2_with (first
              | ((go_at_call 26; with_reducible refine (HB0.out _ hE).mono ?_); rintro e w9 ⟨rfl, k9⟩; replace hE := hE.trans k9; clear k9)
              | ((go_at_call 42; with_reducible refine (HWD.out _ (hE.trans (Ext.alloc _ _))).mono ?_); rintro e w9 ⟨rfl, k9⟩; replace hE := (hE.trans (Ext.alloc _ _)).trans k9; clear k9)
              | ((go_at_call 29; with_reducible refine (HA1.out _ hE).mono ?_); rintro e w9 ⟨rfl, k9⟩; replace hE := hE.trans k9; clear k9)
              | ((go_at_call 14; with_reducible refine (HEX.out _ hE).mono ?_); rintro e w9 ⟨rfl, k9⟩; replace hE := hE.trans k9; clear k9))
            go_ret
            exact ⟨ret_eq (by simp), HE1.out.trans hE⟩
end Go.Proofs.Ytkjpcjmbhpfelaa
