/- Texts put together: TxF, TxG. -/
import Derived.Test.YtodefmfgoehkhaaGreatTxE
import Derived.Test.YtodefmfgoehkhaaGreatZO
/- intersect.Edges: the iterator over the edges of polygons. -/
set_option linter.unusedVariables false
set_option linter.unusedSimpArgs false
namespace Go.Proofs.YtodefmfgoehkhaaGreat
open Go.RowKit Go.Par Go.Shelf Go.TN
open Go.TA (E2)
attribute [local go_sem] Oper.semAt_some

/-- OwnFrom, of turns that take no draw back -/
def OwnD {β : Type} (B : Nat) (I : β → World → Prop) : Prop := ∀ s W W' row, I s W → Grown W W' row → (∀ r, row = some r → B ≤ r ∧ ∃ o : Obj, W.heap[r]? = some o ∧ o.isCells = false) → I s W'
theorem OwnD.putObj {β : Type} {B : Nat} {I : β → World → Prop} (h : OwnD B I) {s : β} {W : World} {l : Nat} {o : Obj} (o' : Obj) (hs : I s W) (hB : B ≤ l) (hl : W.heap[l]? = some o) (ho : o.isCells = false) : I s (W.putObj l o') :=
  h s W _ (some l) hs ⟨grownBy_putObj' W l o', Nat.le_refl _⟩ (fun r e => by cases e; exact ⟨hB, o, hl, ho⟩)
theorem OwnD.alloc {β : Type} {B : Nat} {I : β → World → Prop} (h : OwnD B I) {s : β} {W : World} (o : Obj) (hs : I s W) : I s (W.alloc o) :=
  h s W _ none hs ⟨World.grownBy_alloc W o none, Nat.le_refl _⟩ (fun r e => by cases e)
theorem keepsPut {B l : Nat} {X : World} (o : Obj) (h : l < B) : KeepsFrom B X (X.putObj l o) :=
  ⟨by simp, fun k p hk hp _ => (World.putObj_heap_other (by omega)).trans hp⟩
theorem _root_.Go.KeepsFrom.mono {B B' : Nat} {X Y : World} (h : KeepsFrom B X Y) (hb : B ≤ B') : KeepsFrom B' X Y := ⟨h.size, fun k o hk => h.same k o (Nat.le_trans hb hk)⟩
set_option maxHeartbeats 1000000 in
/-- a range over an iterator whose body always goes on; what the iterator hands over is a part of all -/
theorem wpIn_rangeAll {α : Type} {n : Nat} {g : Operand} {ps : Array Tmp} {assign body : Code} {Q : Exit → Act → World → Prop} {a : Act} {w : World} {gf : Nat} {lb : Array Value}
    (hg : a.eval g = .func (.func gf) #[] lb) (eg : ∀ args w, (callFunc gf args).run Tryz.prog w = .ok (.enter gf args) w)
    {encs : α → Array Value} (hps : ∀ x, (encs x).size = ps.size) (Kp : World → World → Prop) (hKt : ∀ {A B C : World}, Kp A B → Kp B C → Kp A C)
    (hKb : ∀ (W : World) (l : Nat) (o o' : Obj), w.heap.size ≤ l → W.heap[l]? = some o → o.isCells = false → Kp W (W.putObj l o')) (all : List α)
    (hseq : ∀ (l : Nat) (J : List α → World → Prop) (W : World), Ext w W → OwnD W.heap.size J →
      (∀ (m : Nat) pre x W1, J pre W1 → (pre ++ [x]) <+: all → YieldAt Fence.wide m Tryz.prog l (encs x) W1 fun e W' => e = .returned (.bool true) ∧ J (pre ++ [x]) W' ∧ Kp W1 W' ∧ KeepsFrom W.heap.size W1 W') →
      J [] W → CallsIn Fence.wide (n - 1) Tryz.prog gf (#[.func (.yield l) #[] #[]] ++ lb) W fun e W' => (∃ v, e = .returned v) ∧ J all W')
    (I : List α → World → Prop) (hI : OwnD w.heap.size I) (h0 : I [] w) (Ax : α → Act → World → Prop) (hAx : ∀ x a', OwnD w.heap.size (fun (_ : Unit) W => Ax x a' W))
    (hassign : ∀ (m l : Nat) (pre : List α) (x : α) (W : World) (K : Act → World → Prop), I pre W → (∀ a' W', KeepsFrom w.heap.size W W' → Kp W W' → I pre W' → Ax x a' W' → K a' W') →
      assign.wpIn (Fence.wide.inRound l) m Tryz.prog (Exit.then K (fun _ _ _ => False)) { tmps := (ps.zip (encs x)).foldl (fun t (p, v) => t.setIfInBounds p v) a.tmps, defers := [] } W)
    (hbody : ∀ (m l : Nat) (pre : List α) (x : α) (a' : Act) (W : World), I pre W → Ax x a' W → (pre ++ [x]) <+: all →
      body.wpIn (Fence.wide.inRound l) m Tryz.prog (fun e _ W' => e = .normal ∧ KeepsFrom w.heap.size W W' ∧ Kp W W' ∧ I (pre ++ [x]) W') a' W)
    (hdone : ∀ (D : Nat) (W : World), w.heap.size ≤ D → I all W → W.heap[D]? = some (.deferred (some [])) → Q .normal { a with defers := { target := .collected D, args := #[] } :: a.defers } W) :
    (Code.rangeFunc g ps assign body).wpIn Fence.wide n Tryz.prog Q a w := by
  refine wpIn_rangeFunc ?_
  intro fn hfn
  obtain ⟨rc, hrc⟩ : ∃ rc : LoopState → Loop, rc = fun st => { state := st, pending := none, fn, tmps := a.tmps, params := ps, assign, body, defers := w.heap.size } := ⟨_, rfl⟩
  have hX : Ext w ((w.alloc (.deferred (some []))).alloc (.loop (rc .ready))) := (Ext.alloc _ _).trans (Ext.alloc _ _)
  have hsz : ((w.alloc (.deferred (some []))).alloc (.loop (rc .ready))).heap.size = w.heap.size + 2 := by simp
  have hl1 : ((w.alloc (.deferred (some []))).alloc (.loop (rc .ready))).heap[w.heap.size + 1]? = some (.loop (rc .ready)) := by
    have := World.alloc_heap_new (w.alloc (.deferred (some []))) (.loop (rc .ready))
    rwa [World.size_alloc] at this
  have hd1 : ((w.alloc (.deferred (some []))).alloc (.loop (rc .ready))).heap[w.heap.size]? = some (.deferred (some [])) := (Below.heap_alloc _ _ _ (by simp)).trans (World.alloc_heap_new w _)
  have hi1 : I [] ((w.alloc (.deferred (some []))).alloc (.loop (rc .ready))) := hI.alloc _ (hI.alloc _ h0)
  have hen : (Instr.enterLoop fn a.tmps ps assign body Fence.wide.round).run Tryz.prog w = .ok (w.heap.size + 1, [{ target := .collected w.heap.size, args := #[] }]) ((w.alloc (.deferred (some []))).alloc (.loop (rc .ready))) := by
    rw [hrc]; exact run_enterLoop_outer _ _ _ _ _
  generalize (w.alloc (.deferred (some []))).alloc (.loop (rc .ready)) = W1 at *
  refine ⟨w.heap.size + 1, [{ target := .collected w.heap.size, args := #[] }], W1, { target := .fn (.func gf) lb, args := #[.func (.yield (w.heap.size + 1)) #[] #[]] }, W1, gf,
    #[.func (.yield (w.heap.size + 1)) #[] #[]] ++ lb, W1, hen, ?_, fun _ _ => trivial, ?_, fun h => by simp [Fence.wide] at h, ?_⟩
  · simp only [resolve, hg]
    simp [go_sem]
  · simp [invoke, go_sem, eg]
  · refine (hseq (w.heap.size + 1) (fun pre W => I pre W ∧ W.heap[w.heap.size + 1]? = some (.loop (rc .ready)) ∧ W.heap[w.heap.size]? = some (.deferred (some []))) W1 hX ?_ ?_ ⟨hi1, hl1, hd1⟩).mono ?_
    · intro s A B row hs hgr hr
      refine ⟨hI s A B row hs.1 hgr (fun r e => ⟨by have := (hr r e).1; omega, (hr r e).2⟩), ?_, ?_⟩
      · exact (hgr.block _ (Array.getElem?_eq_some_iff.1 hs.2.1).1 (fun e => by have := (hr _ e.symm).1; omega)).trans hs.2.1
      · exact (hgr.block _ (Array.getElem?_eq_some_iff.1 hs.2.2).1 (fun e => by have := (hr _ e.symm).1; omega)).trans hs.2.2
    · rintro m pre x W ⟨hi, hl, hd⟩ hlen
      have hy := run_yield (P := Tryz.prog) (args := encs x) hl (by rw [hrc]; exact hps x)
      rw [hrc] at hy
      refine ⟨fn, _, assign, body, hy, roundIn_of_wpIn hfn (hassign m (w.heap.size + 1) pre x W _ hi ?_)⟩
      intro a' Wa hka hkpa hia hax
      have hla := hka.same _ _ (by omega) hl rfl
      have hda := hka.same _ _ (Nat.le_refl _) hd rfl
      refine ⟨_, run_beginRound hla (by rw [hrc]), ?_⟩
      have hlt : w.heap.size + 1 < Wa.heap.size := (Array.getElem?_eq_some_iff.1 hla).1
      have hl2 : (Wa.putObj (w.heap.size + 1) (.loop { rc .ready with state := .busy })).heap[w.heap.size + 1]? = some (.loop { rc .ready with state := .busy }) := World.putObj_heap_same hlt
      have hd2 : (Wa.putObj (w.heap.size + 1) (.loop { rc .ready with state := .busy })).heap[w.heap.size]? = some (.deferred (some [])) := (World.putObj_heap_other (by omega)).trans hda
      have hkp2 : Kp Wa (Wa.putObj (w.heap.size + 1) (.loop { rc .ready with state := .busy })) := hKb _ _ _ _ (by omega) hla rfl
      have hkf2 : KeepsFrom W1.heap.size Wa (Wa.putObj (w.heap.size + 1) (.loop { rc .ready with state := .busy })) := keepsPut _ (by omega)
      refine wpIn_mono (hbody m (w.heap.size + 1) pre x a' _ (hI.putObj _ hia (by omega) hla rfl) ((hAx x a').putObj (s := ()) _ hax (by omega) hla rfl) hlen) ?_
      rintro e a3 W3 ⟨rfl, hkf3, hkp3, hi3⟩
      have hl3 := hkf3.same _ _ (by omega) hl2 rfl
      have hd3 := hkf3.same _ _ (Nat.le_refl _) hd2 rfl
      have hlt3 : w.heap.size + 1 < W3.heap.size := (Array.getElem?_eq_some_iff.1 hl3).1
      have hend := run_endRound (P := Tryz.prog) none hl3
      have er : ({ ({ rc .ready with state := .busy } : Loop) with state := if (none : Option Code).isNone then .ready else .done, pending := none } : Loop) = rc .ready := by rw [hrc]; rfl
      rw [er] at hend
      refine ⟨_, _, hend, rfl, ⟨hI.putObj _ hi3 (by omega) hl3 rfl, World.putObj_heap_same hlt3, (World.putObj_heap_other (by omega)).trans hd3⟩, hKt hkpa (hKt (hKt hkp2 hkp3) (hKb _ _ _ _ (by omega) hl3 rfl)), ?_⟩
      exact (hka.mono (by omega)).trans ((hkf2.trans (hkf3.mono (by omega))).trans (keepsPut _ (by omega)))
    · rintro e W2 ⟨⟨v, rfl⟩, hi, hl, hd⟩
      refine ⟨none, _, by have := run_endLoop (P := Tryz.prog) hl (by rw [hrc]; simp); rw [hrc] at this; exact this, ?_⟩
      exact hdone w.heap.size _ (Nat.le_refl _) (hI.putObj _ hi (by omega) hl rfl) ((World.putObj_heap_other (by omega)).trans hd)

/-! ## edges -/
def proper (e : E2) : Bool := decide (e.1 ≠ e.2)
def ringE (r : List P2) : List E2 := (edgesS r).filter proper
/-- the edges of polygons, in order -/
def edgesL (L : List (List P2)) : List E2 := L.flatMap ringE
theorem edgesL_step {L : List (List P2)} {k : Nat} {r : List P2} (h : L[k]? = some r) : edgesL (L.take (k + 1)) = edgesL (L.take k) ++ ringE r := by
  unfold edgesL
  rw [List.take_add_one, h, List.flatMap_append]
  simp
theorem edgesL_prefix {L : List (List P2)} {k j : Nat} {r : List P2} (h : L[k]? = some r) : (edgesL (L.take k) ++ ((edgesS r).take j).filter proper) <+: edgesL L := by
  have h1 : edgesL L = edgesL (L.take (k + 1)) ++ edgesL (L.drop (k + 1)) := by
    unfold edgesL
    rw [← List.flatMap_append, List.take_append_drop]
  rw [h1, edgesL_step h, List.append_assoc]
  refine List.prefix_append_right_inj _ |>.2 ?_
  have h2 : ringE r = ((edgesS r).take j).filter proper ++ ((edgesS r).drop j).filter proper := by
    unfold ringE
    rw [← List.filter_append, List.take_append_drop]
  rw [h2, List.append_assoc]
  exact List.prefix_append _ _
theorem take_filter_step {l : List E2} {j : Nat} {e : E2} (h : l[j]? = some e) : (l.take (j + 1)).filter proper = (l.take j).filter proper ++ (if proper e then [e] else []) := by
  rw [List.take_add_one, h, List.filter_append]
  congr 1
  cases hp : proper e <;> simp [hp]

/-! ## what the iterator reads -/
/-- blocks between two marks lie as they lay -/
def Mid (lo hi : Nat) (A B : World) : Prop := A.heap.size ≤ B.heap.size ∧ ∀ k, lo ≤ k → k < hi → B.heap[k]? = A.heap[k]?
section
variable {lo hi : Nat} {A B C : World}
theorem Mid.refl (A : World) : Mid lo hi A A := ⟨Nat.le_refl _, fun _ _ _ => rfl⟩
theorem Mid.trans (h : Mid lo hi A B) (k : Mid lo hi B C) : Mid lo hi A C := ⟨Nat.le_trans h.1 k.1, fun i h1 h2 => (k.2 i h1 h2).trans (h.2 i h1 h2)⟩
theorem Mid.ext (h : Ext A B) (hA : hi ≤ A.heap.size) : Mid lo hi A B := ⟨h.size, fun k _ h2 => Below.block h.1 k (by omega)⟩
theorem Mid.alloc (hA : hi ≤ A.heap.size) (o : Obj) : Mid lo hi A (A.alloc o) := Mid.ext (Ext.alloc _ _) hA
theorem Mid.putObj {l : Nat} (hl : hi ≤ l) (o : Obj) : Mid lo hi A (A.putObj l o) := ⟨by simp, fun k _ h2 => World.putObj_heap_other (by omega)⟩
theorem Mid.grown {row : Option Nat} (h : A.grownBy B row) (hA : hi ≤ A.heap.size) (hr : ∀ g, row = some g → g < lo ∨ hi ≤ g) : Mid lo hi A B := ⟨h.size, fun k h1 h2 => h.block k (by omega) (fun e => by have := hr k e.symm; omega)⟩
theorem Mid.but {g : Nat} (h : But g A B) (hA : hi ≤ A.heap.size) (hg : g < lo ∨ hi ≤ g) : Mid lo hi A B := ⟨h.size, fun k h1 h2 => h.block k (by omega) (fun e => by omega)⟩
theorem Mid.cell {b i : Nat} {v : Value} (h : Mid lo hi A B) (h1 : lo ≤ b) (h2 : b < hi) (hc : A.cell? ⟨b, i, none⟩ = some v) : B.cell? ⟨b, i, none⟩ = some v := (World.cell?_of_block (h.2 b h1 h2)).trans hc
theorem ownD_mid {β : Type} {B0 : Nat} {W0 : World} (h1 : hi ≤ B0) (h2 : hi ≤ W0.heap.size) : OwnD B0 (fun (_ : β) W => Mid lo hi W0 W) :=
  fun _ X Y row hs hg hr => hs.trans (Mid.grown hg.1 (by have := hs.1; omega) fun g e => .inr (by have := (hr g e).1; omega))
end
/-- slices of slices, each a value known -/
def RingsBy (X : World) (A : Option Addr) (vs : Nat → Value) (L : List (List P2)) : Prop := L ≠ [] → ∃ b o, A = some ⟨b, o, none⟩ ∧ ∀ i r, L[i]? = some r → X.cell? ⟨b, o + i, none⟩ = some (vs i) ∧ Pts X (vs i) r
/-- slices that the call has made read as polygons as long as the blocks lie -/
theorem Elems.mid {w X : World} {B hi : Nat} {s : Value} {vs : List Value} {L : List (List P2)} (hs : OwnR w B s vs) (he : Elems w B vs L) (hh : w.heap.size ≤ hi) (hm : Mid B hi w X) (hL : L.length ≤ 1000000) :
    ∃ A c, s = .slice A L.length c ∧ L.length ≤ c ∧ RingsBy X A (fun i => vs.getD i undef) L := by
  have hs' : OwnR X B s vs := by
    refine ⟨hs.1, ?_⟩
    rcases hs.2 with h0 | ⟨g, cap, cur, e, hg, h2, h3⟩
    · exact .inl h0
    · exact .inr ⟨g, cap, cur, e, hg, (hm.2 g hg (by have := (Array.getElem?_eq_some_iff.1 h2).1; omega)).trans h2, h3⟩
  obtain ⟨A, c, rfl, hlc, hA⟩ := hs'.at
  refine ⟨A, c, by rw [he.1], by rw [← he.1]; exact hlc, fun hne => ?_⟩
  obtain ⟨b, rfl, _, hc⟩ := hA (fun e => hne (List.eq_nil_of_length_eq_zero (by rw [← he.1, e]; rfl)))
  refine ⟨b, 0, rfl, fun i r hr => ?_⟩
  obtain ⟨h0, u, h1, h2⟩ := he.2 i r hr
  have e : vs.getD i undef = u := by simp [List.getD, h1]
  dsimp only
  rw [e, Nat.zero_add]
  refine ⟨hc i u h1, Own.pts (base := B) ?_ (by omega)⟩
  refine ⟨h2.1, ?_⟩
  rcases h2.2 with h0 | ⟨g, cap, cur, e, hg, h2, h3⟩
  · exact .inl h0
  · exact .inr ⟨g, cap, cur, e, hg, (hm.2 g hg (by have := (Array.getElem?_eq_some_iff.1 h2).1; omega)).trans h2, h3⟩
/-- the iterator's own copy lies in blocks between lo and hi -/
def EdgeMem (lo hi : Nat) (W : World) (g : Nat) (L : List (List P2)) : Prop := ∃ A c vs, ∀ X, Mid lo hi W X → X.cell? ⟨g, 0, none⟩ = some (.slice A L.length c) ∧ L.length ≤ c ∧ RingsBy X A vs L
theorem EdgeMem.mid {lo hi : Nat} {W X : World} {g : Nat} {L : List (List P2)} (h : EdgeMem lo hi W g L) (hm : Mid lo hi W X) : EdgeMem lo hi X g L := by
  obtain ⟨A, c, vs, h⟩ := h
  exact ⟨A, c, vs, fun Y hY => h Y (hm.trans hY)⟩
theorem transL_zero {L : List (List P2)} (hv : validL L = true) : transL L (0, 0) = L := by
  unfold transL
  rw [if_pos hv]
  simp only [validL, Bool.and_eq_true, List.all_eq_true] at hv
  have : ∀ r ∈ L, moveR (0, 0) r = r := fun r hr => by
    unfold moveR
    have : ∀ p ∈ r, addS p (0, 0) = p := fun p hp => by
      have h := hv.2 r hr p hp
      obtain ⟨h1, h2, h3, h4⟩ := InC.of h
      have e : ∀ n : Int, -1048576 ≤ n → n ≤ 1048576 → heldS n = n := fun n a b => by unfold heldS clampS; rw [if_neg (by omega), if_neg (by omega)]
      unfold addS
      rw [e _ h1 h2, e _ h3 h4, e 0 (by omega) (by omega)]
      simp
    rw [List.map_congr_left this, List.map_id']
  rw [List.map_congr_left this, List.map_id']
set_option maxHeartbeats 800000 in
theorem Edges_any (L : List (List P2)) (A : Option Addr) (c : Nat) (w : World) (hc : L.length ≤ 1000000) (hS : lenS L ≤ 1000000) (hv : validL L = true) (hL : RingsAt w A L) :
    Calls Tryz.prog 72 #[.slice A L.length c] w fun e w' => ∃ g, e = .returned (.func (.func 100) #[] #[.pointer (some ⟨g, 0, none⟩)]) ∧ Ext w w' ∧ EdgeMem w.heap.size w'.heap.size w' g L := by
  have HT := Lib.hid (Translate_any L A c 0 0 w hc hS hL)
  rw [transL_zero hv] at HT
  obtain ⟨n, hn⟩ : ∃ n, n = L.length := ⟨_, rfl⟩
  rw [← hn] at HT ⊢
  have HN := Lib.hid hn
  rw [← hn] at hc
  clear hn hS hv hL
  go_enter Tryz.func72, Tryz.ntmps72
  go_wp2_with fail
  refine HT.out.mono ?_
  rintro e w1 ⟨v, vs, rfl, hE, hown, hel⟩
  have H := Lib.hid (fun X (hm : Mid w.heap.size (w1.heap.size + 1) (w1.alloc (.cells #[v] 22)) X) => Elems.mid (hown.ext (Ext.alloc w1 (.cells #[v] 22))) (hel.ext (Ext.alloc w1 (.cells #[v] 22))) (by simp) hm (by rw [← HN.out]; exact hc))
  have hs := hE.size
  have hvs : vs.length = n := by rw [hel.1, HN.out]
  obtain ⟨A', c', e, hlc, _⟩ := hown.at
  rw [hvs] at e hlc
  subst e
  clear hvs hown hel
  go_wp2
  go_ret
  refine ⟨w1.heap.size, rfl, hE.trans (Ext.alloc _ _), A', c', fun i => vs.getD i undef, fun X hm => ?_⟩
  have hm' : Mid w.heap.size (w1.heap.size + 1) (w1.alloc (.cells #[.slice A' n c'] 22)) X := by
    have e : (w1.alloc (.cells #[.slice A' n c'] 22)).heap.size = w1.heap.size + 1 := by simp
    rw [← e]
    exact hm
  obtain ⟨A2, c2, e, h1, h3⟩ := H.out X hm'
  simp only [Value.slice.injEq] at e
  obtain ⟨rfl, e2, rfl⟩ := e
  refine ⟨?_, by rw [← HN.out]; exact hlc, h3⟩
  have := hm'.cell hs (by omega) (b := w1.heap.size) (i := 0) (v := .slice A' n c') (by rw [(Box.new w1 22 #[.slice A' n c']).cell]; rfl)
  rw [← HN.out]
  exact this
set_option maxRecDepth 100000 in
set_option maxHeartbeats 1600000 in
theorem edges1_in (n l g lo hi : Nat) (L : List (List P2)) (hc : L.length ≤ 1000000) (hr6 : ∀ r ∈ L, r.length ≤ 1000000) (W : World) (hh : hi ≤ W.heap.size) (hmem : EdgeMem lo hi W g L) (J : List E2 → World → Prop) (hJ : OwnD W.heap.size J)
    (hY : ∀ (m : Nat) pre x W1, J pre W1 → (pre ++ [x]) <+: edgesL L → YieldAt Fence.wide m Tryz.prog l #[ptV x.1, ptV x.2] W1 fun e W' => e = .returned (.bool true) ∧ J (pre ++ [x]) W' ∧ Mid lo hi W1 W' ∧ KeepsFrom W.heap.size W1 W') (h0 : J [] W) :
    CallsIn Fence.wide n Tryz.prog 100 #[.func (.yield l) #[] #[], .pointer (some ⟨g, 0, none⟩)] W fun e W' => (∃ v, e = .returned v) ∧ J (edgesL L) W' := by
  obtain ⟨A, c, vs, hmem⟩ := hmem
  obtain ⟨m, hm⟩ : ∃ m, m = L.length := ⟨_, rfl⟩
  rw [← hm] at hmem hc
  have HM := Lib.hid hm
  have HR6 := Lib.hid hr6
  have HMEM := Lib.hid hmem
  have HY := Lib.hid hY
  obtain ⟨k0, k1, k2⟩ := hmem W (Mid.refl _)
  clear hm hmem hY hr6 k2
  refine callsIn_of_wp Tryz.func100 rfl trivial ?_ rfl
  simp only [Tryz.ntmps100, List.size_toArray, List.length_cons, List.length_nil, Nat.reduceAdd, Nat.reduceSub, Array.replicate_succ, Array.replicate_zero, List.push_toArray, List.append_toArray, List.nil_append, List.cons_append]
  gi_wp2_with fail
  gi_loopw [4, 5, 6, 7, 10] (fun _ _ _ _ i wr => ∃ k : Nat, k ≤ m ∧ i = .int .i64 k ∧ J (edgesL (L.take k)) wr ∧ Mid lo hi W wr) (fun _ _ _ _ i _ => m - (intOf i).toNat)
  case atStart => exact ⟨0, Nat.zero_le _, rfl, h0, Mid.refl _⟩
  case round =>
    obtain ⟨k, hk, rfl, hj, hmid⟩ := hrel
    by_cases hlt : k < m
    · obtain ⟨r, hlk⟩ : ∃ r, L[k]? = some r := ⟨_, List.getElem?_eq_getElem (by rw [← HM.out]; exact hlt)⟩
      have hst := edgesL_step hlk
      have hpre := fun j => edgesL_prefix (j := j) hlk
      have hrl := HR6.out r (List.mem_of_getElem? hlk)
      obtain ⟨_, _, hR⟩ := HMEM.out wr hmid
      obtain ⟨b, o, rfl, hcc⟩ := hR (fun e => by rw [e] at hlk; simp at hlk)
      obtain ⟨hv, A', c', hvk, hlc, hlb, hP⟩ := hcc k r hlk
      have HPT := Lib.hid (fun X (hX : Mid lo hi W X) => show PtsAt X A' r from by
        obtain ⟨_, _, hR⟩ := HMEM.out X hX
        obtain ⟨b', o', _, hcc⟩ := hR (fun e => by rw [e] at hlk; simp at hlk)
        obtain ⟨_, A2, c2, e2, _, _, h2⟩ := hcc k r hlk
        rw [hvk] at e2
        simp only [Value.slice.injEq] at e2
        rw [e2.1]
        exact h2)
      rw [hvk] at hv
      clear hvk hcc hR
      obtain ⟨q, hq⟩ : ∃ q, q = r.length := ⟨_, rfl⟩
      rw [← hq] at hrl hlc hlb hv
      have HQ := Lib.hid hq
      have HST := Lib.hid hst
      have HPRE := Lib.hid hpre
      have hmid0 := hmid
      clear hlk hst hpre hP hq
      generalize wr = wo at *
      gi_wp2_with fail
      gi_loopw [5, 6, 7, 16] (fun _ _ _ i wr => ∃ j : Nat, j ≤ q ∧ i = .int .i64 j ∧ J (edgesL (L.take k) ++ ((edgesS r).take j).filter proper) wr ∧ Mid lo hi W wr) (fun _ _ _ i _ => q - (intOf i).toNat)
      case atStart => exact ⟨0, Nat.zero_le _, rfl, by simpa using hj, hmid⟩
      case round =>
        obtain ⟨j, hjq, rfl, hj2, hmid2⟩ := hrel
        by_cases hlt' : j < q
        · obtain ⟨j1, hjm⟩ : ∃ j1, j1 = (j + 1) % q := ⟨_, rfl⟩
          have hmod : j1 < q := by rw [hjm]; exact Nat.mod_lt _ (by omega)
          have w2 := emod_cast j q
          have w4 := tmod_cast j q
          rw [← hjm] at w2 w4
          obtain ⟨⟨x1, y1⟩, hl1⟩ : ∃ p, r[j]? = some p := ⟨_, List.getElem?_eq_getElem (by rw [← HQ.out]; exact hlt')⟩
          obtain ⟨⟨x2, y2⟩, hl2⟩ : ∃ p, r[j1]? = some p := ⟨_, List.getElem?_eq_getElem (by rw [← HQ.out]; exact hmod)⟩
          have hes := take_filter_step (edgesS_at hl1 (by rw [← HQ.out, ← hjm]; exact hl2))
          have hpj := HPRE.out (j + 1)
          rw [hes] at hpj
          have HES := Lib.hid hes
          obtain ⟨b2, o2, rfl, hcell⟩ := HPT.out wr hmid2 (fun e => by rw [e] at hl1; simp at hl1)
          have a0 := (hcell j _ hl1).1
          have a1 := (hcell j _ hl1).2
          have d0 := (hcell _ _ hl2).1
          have d1 := (hcell _ _ hl2).2
          have w1 := wrap_add_one hlt' (by omega)
          have w3 : ¬ q = 0 := by omega
          have hwz := hmid2.1
          clear hl1 hl2 hcell hjm hes
          by_cases heq : x1 = x2 ∧ y1 = y2
          · have hpf : proper ((x1, y1), (x2, y2)) = false := by simp [proper, heq.1, heq.2]
            rw [hpf] at HES
            have hj3 : J (edgesL (L.take k) ++ ((edgesS r).take (j + 1)).filter proper) ((wr.alloc (.cells #[.int .i64 x1, .int .i64 y1] 49)).alloc (.cells #[.int .i64 x2, .int .i64 y2] 49)) := by
              rw [HES.out]
              exact hJ.alloc _ (hJ.alloc _ (by simpa using hj2))
            have hm3 := (hmid2.trans (Mid.alloc (by omega) (.cells #[.int .i64 x1, .int .i64 y1] 49))).trans (Mid.alloc (by simp; omega) (.cells #[.int .i64 x2, .int .i64 y2] 49))
            obtain ⟨rfl, rfl⟩ := heq
            clear hpf hpj
            gi_wp2
            refine ⟨fun _ h => (by cases h), ?_⟩
            gi_wp2
            go_roundw
            case rel => exact ⟨j + 1, by omega, by go_num, hj3, hm3⟩
            case measure => simp [intOf]; omega
          · have hpt : proper ((x1, y1), (x2, y2)) = true := by
              simp only [proper, decide_eq_true_eq]
              exact fun e => heq ⟨congrArg Prod.fst e, congrArg Prod.snd e⟩
            rw [hpt] at hpj HES
            rw [if_pos rfl, ← List.append_assoc] at hpj
            have hm3 := (hmid2.trans (Mid.alloc (by omega) (.cells #[.int .i64 x1, .int .i64 y1] 49))).trans (Mid.alloc (by simp; omega) (.cells #[.int .i64 x2, .int .i64 y2] 49))
            have hj3 := hJ.alloc (.cells #[.int .i64 x2, .int .i64 y2] 49) (hJ.alloc (.cells #[.int .i64 x1, .int .i64 y1] 49) hj2)
            obtain ⟨fn, tmps, assign, body, hy, hR⟩ := HY.out (n - 1) _ ((x1, y1), (x2, y2)) _ hj3 hpj
            have hne : (!(decide (x1 = x2) && decide (y1 = y2))) = true := by
              by_cases h1 : x1 = x2
              · simp [h1, show ¬ y1 = y2 from fun h2 => heq ⟨h1, h2⟩]
              · simp [h1]
            have HPJ := Lib.hid hpj
            clear hpj hpt
            gi_wp2
            refine ⟨fun h => (by simp [Fence.wide] at h), ?_⟩
            refine hR.mono ?_
            rintro e W5 ⟨rfl, hj5, hm5, hk5⟩
            have hj6 : J (edgesL (L.take k) ++ ((edgesS r).take (j + 1)).filter proper) W5 := by
              rw [HES.out, if_pos trivial, ← List.append_assoc]
              exact hj5
            clear hy
            gi_wp2
            go_roundw
            case rel => exact ⟨j + 1, by omega, by go_num, hj6, hm3.trans hm5⟩
            case measure => simp [intOf]; omega
        · have hfin : (edgesS r).take j = edgesS r := List.take_of_length_le (by rw [edgesS_length, ← HQ.out]; omega)
          rw [hfin] at hj2
          have hj3 : J (edgesL (L.take (k + 1))) wr := by rw [HST.out]; exact hj2
          clear hfin
          gi_wp2
          go_roundw
          case rel => exact ⟨k + 1, by omega, by go_num, hj3, hmid2⟩
          case measure => simp [intOf]; omega
    · have hfin : L.take k = L := List.take_of_length_le (by rw [← HM.out]; omega)
      rw [hfin] at hj
      clear hfin
      gi_wp2
      go_end0
      exact ⟨⟨_, rfl⟩, hj⟩
end Go.Proofs.YtodefmfgoehkhaaGreat

/- intersect: put, the closure of EventYs. -/
set_option linter.unusedVariables false
set_option linter.unusedSimpArgs false
namespace Go.Proofs.YtodefmfgoehkhaaGreat
open Go.RowKit Go.Par Go.Shelf Go.TN
open Go.TA (E2 ratI alongR yAtR xAt crosses crossI segN segT segS)

theorem rat_one {w : World} {b : Nat} (x : RQ) (h : Box w b 29 #[.bool x.b, .slice x.A x.n x.c, .bool x.b', .slice x.A' x.n' x.c']) : ratE.Row w (.slice (some ⟨b, 0, none⟩) 1 1) [x] :=
  ⟨_, _, rfl, Nat.le_refl _, (by simp), EL.At.box h fun j v hv => by simpa [EL.cells, ratE, RQ.ws] using hv⟩
/-- a step that writes one box and one row: all else lies as it lay; digits are kept -/
structure Stp (bo : Nat) (row : Option Nat) (w w' : World) : Prop where
  os : w'.os = w.os
  tape : w'.tape = w.tape
  output : w'.output = w.output
  size : w.heap.size ≤ w'.heap.size
  drawn : w.drawn ≤ w'.drawn
  block : ∀ k, k < w.heap.size → k ≠ bo → row ≠ some k → w'.heap[k]? = w.heap[k]?
  dig : DigKeep w w'
section
variable {bo : Nat} {row : Option Nat} {w w' w'' w0 : World}
theorem Stp.of_ext (h : Ext w w') : Stp bo row w w' := ⟨Below.os h.1, Below.tape h.1, Below.output h.1, h.size, h.2, fun k hk _ _ => Below.block h.1 k hk, DigKeep.ext h⟩
theorem Stp.trans (h : Stp bo row w w') (k : Stp bo row w' w'') : Stp bo row w w'' := ⟨k.os.trans h.os, k.tape.trans h.tape, k.output.trans h.output, Nat.le_trans h.size k.size, Nat.le_trans h.drawn k.drawn, fun i hi h1 h2 => (k.block i (Nat.lt_of_lt_of_le hi h.size) h1 h2).trans (h.block i hi h1 h2), h.dig.trans k.dig⟩
theorem Stp.grown (hg : Grown w w' row) (hd : DigKeep w w') : Stp bo row w w' := ⟨hg.os, hg.tape, hg.output, hg.size, hg.drawn, fun k hk _ h => hg.block k hk (fun e => h e.symm), hd⟩
theorem Stp.but (h : But bo w w') (hd : DigKeep w w') : Stp bo row w w' := ⟨h.os, h.tape, h.output, h.size, h.drawn, fun k hk h1 _ => h.block k hk h1, hd⟩
theorem Stp.box (h : Stp bo row w w') {b : Nat} {t : TypeId} {cs : Array Value} (hB : Box w b t cs) (h1 : b ≠ bo) (h2 : row ≠ some b) : Box w' b t cs := (h.block b hB.lt h1 h2).trans hB
theorem Stp.ext (h : Ext w0 w) (k : Stp bo row w w') (h1 : w0.heap.size ≤ bo) (h2 : ∀ g, row = some g → w0.heap.size ≤ g) : Ext w0 w' :=
  ⟨⟨k.os.trans (Below.os h.1), k.tape.trans (Below.tape h.1), k.output.trans (Below.output h.1), Nat.le_trans h.size k.size, fun i hi => (k.block i (Nat.lt_of_lt_of_le hi h.size) (by omega) (fun e => by have := h2 i e; omega)).trans (Below.block h.1 i hi)⟩, Nat.le_trans h.2 k.drawn⟩
theorem Stp.mid {lo hi : Nat} (k : Stp bo row w w') (hw : hi ≤ w.heap.size) (h1 : bo < lo ∨ hi ≤ bo) (h2 : ∀ g, row = some g → g < lo ∨ hi ≤ g) : Mid lo hi w w' :=
  ⟨k.size, fun i a b => k.block i (by omega) (by omega) (fun e => by have := h2 i e; omega)⟩
end
theorem OwnC.wpApp' {α : Type} {w : World} {ops : Array Oper} {rest : List Oper} {o : Oper} {a : Act} {Q : Exit → Act → World → Prop} (E : EL Tryz.prog α) (hC : Clean E) (hgd : o.guard = none) (s x : Operand)
    (ho : o.op = .call { callee := .builtin .append, args := #[s, x], argTypes := #[E.st, E.st] }) (base : Nat) (v sv : Value) (l m : List α)
    (hs : a.eval s = v) (hx : a.eval x = sv) (hown : OwnC E w base v l) (hm : E.Row w sv m) (hb : l.length + m.length ≤ 1000000000) (hbase : base ≤ w.heap.size)
    (h : ∀ v' w', OwnC E w' base v' (l ++ m) → Grown w w' v.ownBlock → DigKeep w w' → (v'.ownBlock = v.ownBlock ∨ v'.ownBlock = some w.heap.size) → wpList Tryz.prog ops Q rest (a.put o.dst v') w') : wpList Tryz.prog ops Q (o :: rest) a w := by
  obtain ⟨v', w', hr, h2, h3, h4, h5⟩ := EL.app_clean (E := E) hC o.type hown.own hown.nod hm hb hbase
  exact Lib.wpList_append_run _ hgd _ _ _ _ ho _ _ hs hx _ _ hr (h v' w' ⟨h2, h5⟩ h3 (hown.dk h3.1) (h4.elim (fun e => .inl (by rw [e])) id))
theorem NoDig.but_set {w : World} {bo : Nat} {t : TypeId} {u : Value} (h : Box w bo t #[u]) (hu : ∀ d : Int, u ≠ .int .u32 d) : NoDig w bo := NoDig.box h fun i d e => by
  cases i with
  | zero => simp at e; exact hu d e
  | succ i => simp at e
theorem OwnC.ne_box {α : Type} {E : EL Tryz.prog α} {w : World} {B b : Nat} {v : Value} {l : List α} {t : TypeId} {cs : Array Value} (h : OwnC E w B v l) (hb : Box w b t cs) (ht : t ≠ E.t) : v.ownBlock ≠ some b := fun e => by
  rcases h.own.2 with ⟨e', _⟩ | ⟨g, cap, cur, e', _, hg, _⟩
  · rw [e'] at e; cases e
  · rw [e'] at e
    simp only [Value.ownBlock, Option.some.injEq] at e
    subst e
    rw [show w.heap[g]? = _ from hb] at hg
    simp only [Option.some.injEq, Obj.cells.injEq] at hg
    exact ht hg.2.1
/-- what the closure put does: y comes behind, if it lies within -/
def PutPost (w : World) (B bo : Nat) (v : Value) (l : List RQ) (low high y : Rat) (e : Ending) (w' : World) : Prop :=
  e = .returned (.tuple #[]) ∧ ∃ v' l', Stp bo v.ownBlock w w' ∧ Box w' bo 81 #[v'] ∧ OwnC ratE w' B v' l' ∧ (v'.ownBlock = v.ownBlock ∨ ∃ g, v'.ownBlock = some g ∧ w.heap.size ≤ g) ∧
    ((low < y ∧ y < high ∧ ∃ x : RQ, x.At w' ∧ x.q = y ∧ l' = l ++ [x]) ∨ (¬ (low < y ∧ y < high) ∧ l' = l))
set_option maxHeartbeats 800000 in
set_option maxRecDepth 8000 in
theorem put_any {w : World} {bl bh bo B : Nat} {lo hi : RQ} {u v : Value} {l : List RQ} {y : Rat} {k : Nat} (x1 : Box w bl 29 #[.bool lo.b, .slice lo.A lo.n lo.c, .bool lo.b', .slice lo.A' lo.n' lo.c']) (x2 : Box w bh 29 #[.bool hi.b, .slice hi.A hi.n hi.c, .bool hi.b', .slice hi.A' hi.n' hi.c'])
    (x3 : Box w bo 81 #[v]) (hown : OwnC ratE w B v l) (h1 : lo.At w) (h2 : hi.At w) (hu : RV w u y) (s1 : Sz 2 lo.q) (s2 : Sz 2 hi.q) (sy : Sz k y) (hk : k ≤ 1000) (hl : l.length ≤ 100000000) (hB : B ≤ w.heap.size) :
    Calls Tryz.prog 71 #[u, .pointer (some ⟨bl, 0, none⟩), .pointer (some ⟨bh, 0, none⟩), .pointer (some ⟨bo, 0, none⟩)] w (PutPost w B bo v l lo.q hi.q y) := by
  obtain ⟨x, rfl, hxy, hx⟩ := hu.rq
  subst hxy
  have hvd : ∀ d : Int, v ≠ .int .u32 d := fun d e => by
    rcases hown.own.2 with ⟨rfl, _⟩ | ⟨g, cap, cur, rfl, _⟩ <;> cases e
  have HC1 := Lib.hid (fun W (hE : Ext w W) => cmpR (h1.ext hE).rv (hx.ext hE).rv s1 sy (by omega))
  have HC2 := Lib.hid (fun W (hE : Ext w W) => cmpR (hx.ext hE).rv (h2.ext hE).rv sy s2 (by omega))
  have e1 : cmpQ lo.q x.q < 0 ↔ lo.q < x.q := cmpQ_neg
  have e2 : cmpQ x.q hi.q < 0 ↔ x.q < hi.q := cmpQ_neg
  generalize cmpQ lo.q x.q = r1 at *
  generalize cmpQ x.q hi.q = r2 at *
  have H1 := Lib.hid e1
  have H2 := Lib.hid e2
  clear e1 e2 h1 h2 hu s1 s2 sy
  have hE := Ext.alloc w (.cells #[.bool x.b, .slice x.A x.n x.c, .bool x.b', .slice x.A' x.n' x.c'] 29)
  have x0 := Box.new w 29 #[.bool x.b, .slice x.A x.n x.c, .bool x.b', .slice x.A' x.n' x.c']
  have hlt := x3.lt
  have hne : ¬ w.heap.size = bo := by omega
  have c1 := x1.cell
  have c2 := x2.cell
  have c3 := x3.cell
  unfold RQ.v
  have HX := Lib.hid hx
  clear hx
  go_enter Tryz.func71, Tryz.ntmps71
  go_wp2_with fail
  refine (HC1.out _ hE).mono ?_
  rintro e w1 ⟨rfl, hE1⟩
  replace hE := hE.trans hE1
  replace x0 := x0.ext hE1
  clear c1 c2 c3 HC1
  have c0 := x0.cell
  have c2 := (x2.ext hE).cell
  by_cases k1 : r1 < 0
  · have d1 : (r1 < 0) = True := eq_true k1
    go_wp2_with fail
    refine (HC2.out _ hE).mono ?_
    rintro e w2 ⟨rfl, hE2⟩
    replace hE := hE.trans hE2
    replace x0 := x0.ext hE2
    clear c0 c2 HC2 hE1 hE2
    by_cases k2 : r2 < 0
    · have d2 : (r2 < 0) = True := eq_true k2
      have c0 := x0.cell
      have c3 := (x3.ext hE).cell
      have hs := hE.size
      have hlen : l.length + [x].length ≤ 1000000000 := by simp; omega
      have xo := (x3.ext hE).alloc (.cells #[.bool x.b, .slice x.A x.n x.c, .bool x.b', .slice x.A' x.n' x.c'] 29)
      have hown2 := (hown.ext hE).ext (Ext.alloc w2 (.cells #[.bool x.b, .slice x.A x.n x.c, .bool x.b', .slice x.A' x.n' x.c'] 29))
      have hob := hown.ne_box x3 (by decide)
      go_wp2_with (at_builtin; refine OwnC.wpApp' ratE ratE_clean rfl _ _ rfl B v _ l [x] rfl rfl hown2 (rat_one x (Box.new _ _ _)) hlen (by simp; omega) ?_; intro v' w4 hown4 hg hd hv'; obtain ⟨g4, cap4, e4, _, _⟩ := hown4.own.head (by simp); simp only [List.length_append, List.length_cons, List.length_nil, Nat.zero_add] at e4; subst e4; have x5 := boxGrown xo hg hob; have c5 := x5.cell; have f5 := x5.frozen)
      go_end0
      have hb4 := (But.refl bo w4).set 0 (.slice (some ⟨g4, 0, none⟩) (l.length + 1) cap4)
      have hdo : DigKeep w4 (w4.setCell ⟨bo, 0, none⟩ (.slice (some ⟨g4, 0, none⟩) (l.length + 1) cap4)) := DigKeep.but hb4 (NoDig.but_set x5 hvd)
      have hst : Stp bo v.ownBlock w (w4.setCell ⟨bo, 0, none⟩ (.slice (some ⟨g4, 0, none⟩) (l.length + 1) cap4)) := ((Stp.of_ext (hE.trans (Ext.alloc _ _))).trans (Stp.grown hg hd)).trans (Stp.but hb4 hdo)
      refine ⟨rfl, _, l ++ [x], hst, x5.set 0 (.slice (some ⟨g4, 0, none⟩) (l.length + 1) cap4), hown4.but hb4 (fun e => ?_), ?_, .inl ⟨H1.out.1 k1, H2.out.1 k2, x, HX.out.dk hst.dig, rfl, rfl⟩⟩
      · exact hown4.ne_box x5 (by decide) e
      · rcases hv' with e | e
        · exact .inl e
        · exact .inr ⟨_, e, by simp; omega⟩
    · have d2 : (r2 < 0) = False := eq_false k2
      go_wp2
      go_end0
      exact ⟨rfl, v, l, Stp.of_ext hE, x3.ext hE, hown.ext hE, .inl rfl, .inr ⟨fun h => absurd (H2.out.2 h.2) (Int.not_lt.2 k2), rfl⟩⟩
  · have d1 : (r1 < 0) = False := eq_false k1
    go_wp2
    go_end0
    exact ⟨rfl, v, l, Stp.of_ext hE, x3.ext hE, hown.ext hE, .inl rfl, .inr ⟨fun h => absurd (H1.out.2 h.1) (Int.not_lt.2 k1), rfl⟩⟩
end Go.Proofs.YtodefmfgoehkhaaGreat
