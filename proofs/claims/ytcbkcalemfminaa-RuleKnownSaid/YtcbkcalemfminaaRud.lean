/- A classifier as it lies in memory; New: walked. -/
import Derived.Test.YtcbkcalemfminaaRuc
import Derived.Test.YtcbkcalemfminaaStep
namespace Go.Proofs.Ytcbkcalemfminaa
open Go.RowKit
theorem build_cl (parts : Array (Nat × Value)) : Instr.build 61 parts = buildRow 61 parts := by unfold buildRow; rfl
attribute [local go_sem ↓] load_ad load_pf load_ru load_ky load_bs build_pf build_ru build_cl

def clArr (va : Value) (o : Ru) (vh : Value) : Array Value := (va :: (o.cs ++ [vh])).toArray
theorem built_cl {r : Ru} (hr : r.Ok) (a a' : Option Addr) (n c n' c' : Nat) (w : World) : (buildRow 61 #[(0, .slice a n c), (1, .agg r.arr), (2, .slice a' n' c')]).run Try.prog w = .ok (.agg (clArr (.slice a n c) r (.slice a' n' c'))) w := by
  unfold buildRow
  refine run_build w _ _ _ ?_
  obtain ⟨v, pr, ⟨⟨s, bs⟩, l⟩, ⟨⟨s', bs'⟩, l'⟩, x, y, z, d, e, f⟩ := r
  obtain ⟨x0, x1, x2, x3, x4, x5, x6, x7, x8, x9, x10, x11, x12, x13, x14, x15, rfl⟩ := len16 hr.s.1
  obtain ⟨y0, y1, y2, y3, y4, y5, y6, y7, y8, y9, y10, y11, y12, y13, y14, y15, rfl⟩ := len16 hr.d.1
  kernel_rfl

theorem own_ge {w : World} {base : Nat} {e : TypeId} {size : Nat} {v : Value} {n : Nat} {xs : List Value} (h : w.ownsRow base e size v n xs) : ∀ k, v.ownBlock = some k → base ≤ k := fun k hk => (h.lt k hk).1
theorem own_lt {w : World} {base : Nat} {e : TypeId} {size : Nat} {v : Value} {n : Nat} {xs : List Value} (h : w.ownsRow base e size v n xs) : ∀ k, v.ownBlock = some k → k < w.heap.size := fun k hk => (h.lt k hk).2
theorem range_alloc {w : World} {b o : Nat} {cs : List Value} (h : w.rangeAt b o cs) (hb : b < w.heap.size) (ob : Obj) : (w.alloc ob).rangeAt b o cs := fun j v hj =>
  (World.cell?_of_block (a := ⟨b, o + j, none⟩) (alloc_block_old ob hb)).trans (h j v hj)
/-- Counts as cells. -/
def hCells (hs : List Nat) : List Value := hs.map fun n => .int .u64 (n : Nat)
/-- A classifier, whose blocks lie from B up to T. -/
structure IsC (w : World) (B T p : Nat) (o : Ru) (l : List Ru) (hs : List Nat) : Prop where
  bp : B ≤ p ∧ p < T
  top : T ≤ w.heap.size
  ex : ∃ va vh, w.heap[p]? = some (.cells (clArr va o vh) 61 (0, 0)) ∧ OwnRules w B va l ∧ w.ownsRow B 62 1 vh hs.length (hCells hs) ∧ (∀ k, va.ownBlock = some k → k < T) ∧ (∀ k, vh.ownBlock = some k → k < T)
  ook : o.Ok
  lok : ∀ r ∈ l, r.Ok
  hlen : hs.length = l.length + 1
theorem IsC.only {w w' : World} {B T p : Nat} {o : Ru} {l : List Ru} {hs : List Nat} (h : IsC w B T p o l hs) {S : Nat → Prop} (hO : Only S w w') (hS : ∀ k, B ≤ k → k < T → ¬ S k) : IsC w' B T p o l hs := by
  obtain ⟨va, vh, hb, hv, hh, h1, h2⟩ := h.ex
  exact ⟨h.bp, Nat.le_trans h.top hO.size, ⟨va, vh, hO.keep hb (hS p h.bp.1 h.bp.2), own_only hv hO (fun k hk => hS k (own_ge hv k hk) (h1 k hk)), own_only hh hO (fun k hk => hS k (own_ge hh k hk) (h2 k hk)), h1, h2⟩, h.ook, h.lok, h.hlen⟩
theorem IsC.below {w w' : World} {B T p : Nat} {o : Ru} {l : List Ru} {hs : List Nat} (h : IsC w B T p o l hs) (hB : Below w.heap.size w w') : IsC w' B T p o l hs := h.only (Below.only hB (fun _ => False)) (fun _ _ _ h => h)

theorem info_u64 : (Try.prog.info? 62).map (fun i => (i.zero, i.size, i.bytes)) = some (some (Value.int .u64 0), 1, 8) := by kernel_rfl
theorem make_hits (n : Nat) (hn : n ≤ 1000000) : ∃ C : Array Value, C.toList = hCells (List.replicate n 0) ∧ C.size = n ∧
    ∀ w : World, (Instr.makeSlice 49 (.int .i64 n) (.int .i64 n)).run Try.prog w = .ok (.slice (some ⟨w.heap.size, 0, none⟩) n n) (w.alloc (.cells C 62)) := by
  obtain ⟨i0, hi, hz0, hz1, hz2⟩ := info_parts info_u64
  refine ⟨madeCells (Value.int .u64 0).cells n, ?_, by simp [madeCells], fun w => ?_⟩
  · apply List.ext_getElem?
    intro j
    by_cases hj : j < n
    · simp [madeCells, hCells, Value.cells, hj, List.getElem?_replicate, Nat.mod_one]
    · have h1 : (madeCells (Value.int .u64 0).cells n).toList.length = n := by simp [madeCells]
      rw [List.getElem?_eq_none (by omega), List.getElem?_eq_none (by simp [hCells]; omega)]
  · have h := run_makeSlice (P := Try.prog) w 49 62 i0 (.int .u64 0) Try.underlying49 hi hz0 .i64 .i64 n n (by omega) (Int.le_refl _) (by rw [hz1]; simp; omega) (by rw [hz2]; omega) (by omega)
    rw [hz1] at h
    simpa using h

def others (deny : Bool) (cls : Int) : Ru := ⟨0, -1, Pf.zero, Pf.zero, 0, 65535, 0, 65535, deny, if deny = true then 0 else cls⟩
theorem others_ok (deny : Bool) (cls : Int) : (others deny cls).Ok := ⟨Ad.zero_ok, Ad.zero_ok, by show 0 < 65536 ∧ 65535 < 65536 ∧ 0 < 65536 ∧ 65535 < 65536; decide⟩
/-- What New tells. -/
def NewRes (w : World) (deny : Bool) (cls : Int) (l : List Ru) (e : Ending) (w' : World) : Prop :=
  Below w.heap.size w w' ∧
  ((64 < l.length ∧ e = .returned (.tuple #[.pointer none, .int .i64 3])) ∨
   (l.length ≤ 64 ∧ (!(others deny cls).right || l.any fun r => !r.right) = true ∧ e = .returned (.tuple #[.pointer none, .int .i64 2])) ∨
   (l.length ≤ 64 ∧ (!(others deny cls).right || l.any fun r => !r.right) = false ∧ ∃ p, e = .returned (.tuple #[.pointer (some ⟨p, 0, none⟩), .int .i64 0]) ∧ IsC w' w.heap.size w'.heap.size p (others deny cls) l (List.replicate (l.length + 1) 0)))

theorem own_raise {w : World} {base base' : Nat} {e : TypeId} {size : Nat} {v : Value} {n : Nat} {xs : List Value} (h : w.ownsRow base e size v n xs) (hb : ∀ k, v.ownBlock = some k → base' ≤ k) : w.ownsRow base' e size v n xs := by
  refine ⟨h.1, ?_⟩
  rcases h.2 with hn | ⟨g, cap, cur, hv, hg, rest⟩
  · exact .inl hn
  · exact .inr ⟨g, cap, cur, hv, hb g (by rw [hv]; rfl), rest⟩
theorem mk_C {W w7 : World} {va : Value} {O : Ru} {l : List Ru} {C : Array Value} {N p h B6 : Nat} (hB7 : Below W.heap.size W w7) (hO : O.Ok) (hl : ∀ r ∈ l, r.Ok) (hN : l.length = N) (hN6 : N ≤ 1000000) (hC : C.toList = hCells (List.replicate (N + 1) 0) ∧ C.size = N + 1)
    (hp : w7.heap[p]? = some (.cells (clArr va O (.slice (some ⟨h, 0, none⟩) (N + 1) (N + 1))) 61 (0, 0))) (hh : w7.heap[h]? = some (.cells C 62 (0, 0))) (hr : OwnRules w7 B6 va l) (h6 : W.heap.size ≤ B6) (hpB : W.heap.size ≤ p) (hhB : W.heap.size ≤ h) :
    IsC w7 W.heap.size w7.heap.size p O l (List.replicate (l.length + 1) 0) := by
  refine ⟨⟨hpB, lt_of_obj hp⟩, Nat.le_refl _, ⟨va, _, hp, own_raise hr (fun k hk => Nat.le_trans h6 (own_ge hr k hk)), ?_, own_lt hr, fun k hk => ?_⟩, hO, hl, by simp⟩
  · rw [hN]
    refine ⟨by simp [hCells], .inr ⟨h, N + 1, C, by simp, hhB, hh, by simp, by unfold maxLen; omega, by rw [hC.2]; omega, ?_⟩⟩
    rw [hC.1, List.take_of_length_le (by simp [hCells])]
  · injection hk with hk
    subst hk
    exact lt_of_obj hh

set_option maxRecDepth 100000 in
set_option maxHeartbeats 2000000 in
theorem new_is (deny : Bool) (cls : Int) {w : World} {v : Value} {l : List Ru} (hl : Rules w v l) (hlen : l.length ≤ 1000000) :
    Calls Try.prog 7 #[.bool deny, .int .i64 cls, v] w (NewRes w deny cls l) := by
  obtain ⟨la, lc, rfl, _⟩ := id hl
  have HL := Lib.hid hl
  clear hl
  go_enter Try.func7, Try.ntmps7
  go_wp2_with fail
  refine (any_is _).mono ?_
  rintro e w1 ⟨rfl, hB1⟩
  have HB1 := Lib.hid hB1
  clear hB1
  go_wp2_with (first | (refine wpList_store_blk rfl 43 (.tmp 8) (.tmp 9) rfl w1.heap.size Ru.any.arr rfl rfl 43 Ru.zero.arr (alloc_block_new w1 (.cells Ru.zero.arr 43)) (by kernel_rfl) rfl (by kernel_rfl) ?_))
  intro w2 hS
  have hB2 : Below w1.heap.size w1 w2 := ((Below.refl _ _).alloc (Nat.le_refl _) (.cells Ru.zero.arr 43)).trans (hS.only.below (by simp) (fun k hk e => by omega))
  have g0 := hS.blk
  generalize hbb : w1.heap.size = b at *
  have hb0 : w.heap.size ≤ b := by have := HB1.out.size; omega
  have hB2' := HB1.out.trans (hB2.mono (by omega))
  have c0 : w2.cell? ⟨b, 42, none⟩ = some (.bool false) := cell_of_block g0 42
  have c1 : w2.cell? ⟨b, 43, none⟩ = some (.int .i64 0) := cell_of_block g0 43
  have f0 : w2.frozen? ⟨b, 42, none⟩ = false := free_of_block g0 42
  have f1 : w2.frozen? ⟨b, 43, none⟩ = false := free_of_block g0 43
  have HB2 := Lib.hid hB2'
  have HG0 := Lib.hid g0
  clear hS hB2 hB2' g0
  cases deny
  all_goals
    go_upto_region 5 with (fail)
    first
      | (with_reducible show Code.wp _ _ _ _ ((w2.setCell ⟨b, 42, none⟩ (.bool false)).setCell ⟨b, 43, none⟩ (.int .i64 cls))
         have hblk : ((w2.setCell ⟨b, 42, none⟩ (.bool false)).setCell ⟨b, 43, none⟩ (.int .i64 cls)).heap[b]? = some (.cells (others false cls).arr 43 (0, 0)) := setCell_block (setCell_block HG0.out 42 (.bool false)) 43 (.int .i64 cls)
         have hB3 := (HB2.out.setCell (p := ⟨b, 42, none⟩) hb0 (.bool false)).setCell (p := ⟨b, 43, none⟩) hb0 (.int .i64 cls)
         generalize (w2.setCell ⟨b, 42, none⟩ (.bool false)).setCell ⟨b, 43, none⟩ (.int .i64 cls) = w3 at *
         have hOok : (others false cls).Ok := others_ok _ _
         generalize hOe : others false cls = O at *
         have HOE := Lib.hid hOe)
      | (with_reducible show Code.wp _ _ _ _ (((w2.setCell ⟨b, 42, none⟩ (.bool true)).setCell ⟨b, 43, none⟩ (.int .i64 cls)).setCell ⟨b, 43, none⟩ (.int .i64 0))
         have hblk : (((w2.setCell ⟨b, 42, none⟩ (.bool true)).setCell ⟨b, 43, none⟩ (.int .i64 cls)).setCell ⟨b, 43, none⟩ (.int .i64 0)).heap[b]? = some (.cells (others true cls).arr 43 (0, 0)) := setCell_block (setCell_block (setCell_block HG0.out 42 (.bool true)) 43 (.int .i64 cls)) 43 (.int .i64 0)
         have hB3 := ((HB2.out.setCell (p := ⟨b, 42, none⟩) hb0 (.bool true)).setCell (p := ⟨b, 43, none⟩) hb0 (.int .i64 cls)).setCell (p := ⟨b, 43, none⟩) hb0 (.int .i64 0)
         generalize ((w2.setCell ⟨b, 42, none⟩ (.bool true)).setCell ⟨b, 43, none⟩ (.int .i64 cls)).setCell ⟨b, 43, none⟩ (.int .i64 0) = w3 at *
         have hOok : (others true cls).Ok := others_ok _ _
         generalize hOe : others true cls = O at *
         have HOE := Lib.hid hOe)
  all_goals
    have hl3 := HL.out.below hB3
    have hL := row_ru hOok (range_block hblk)
    have H3 := Lib.hid (And.intro hblk (And.intro hB3 hl3))
    have hbl := lt_of_obj hblk
    clear c0 c1 f0 f1 HG0 HB2 HL hblk hB3 hl3 hOe
    by_cases h64 : 64 < l.length
    · go_wp2_with fail
      exact bodyPost_ret (v := .tuple #[.pointer none, .int .i64 3]) (by simp [results, Try.results7, go_sem]) rfl ⟨H3.out.2.1, .inl ⟨h64, rfl⟩⟩
    · go_wp2_with fail
      refine (rright_is hOok _).mono ?_
      rintro e w4 ⟨rfl, hB4⟩
      have HB4 := Lib.hid hB4
      clear hB4 hL
      cases hO : O.right with
      | false =>
        go_wp2_with fail
        exact bodyPost_ret (v := .tuple #[.pointer none, .int .i64 2]) (by simp [results, Try.results7, go_sem]) rfl ⟨H3.out.2.1.trans (HB4.out.mono H3.out.2.1.size), .inr (.inl ⟨by omega, by rw [HOE.out, hO]; rfl, rfl⟩)⟩
      | true =>
        have hl4 := H3.out.2.2.below HB4.out
        go_wp2_with fail
        refine (contains_new hl4 hlen).mono ?_
        rintro e w5 ⟨rfl, hB5⟩
        have HB5 := Lib.hid (HB4.out.trans (hB5.mono HB4.out.size))
        clear hB5 hl4
        cases hA : (l.any fun r => !r.right) with
        | true =>
          go_wp2_with fail
          exact bodyPost_ret (v := .tuple #[.pointer none, .int .i64 2]) (by simp [results, Try.results7, go_sem]) rfl ⟨H3.out.2.1.trans (HB5.out.mono H3.out.2.1.size), .inr (.inl ⟨by omega, by rw [HOE.out, hO, hA]; rfl, rfl⟩)⟩
        | false =>
          have hl5 := H3.out.2.2.below HB5.out
          have hr5 := range_below (range_block H3.out.1) hbl HB5.out
          have hblk5 := (HB5.out.block _ hbl).trans H3.out.1
          go_wp2_with fail
          generalize hN : l.length = N at *
          have hw : IntKind.i64.wrap ((N : Int) + 1) = ((N + 1 : Nat) : Int) := by rw [IntWalk.i64_in _ (by omega)]; rfl
          have hn1 : (0 : Int) ≤ ((N + 1 : Nat) : Int) := by omega
          have hn2 : ((N + 1 : Nat) : Int) ≤ 1000 := by omega
          have HNN := Lib.hid hN
          have HCL := Lib.hid (And.intro hl5 hblk5)
          clear hN
          have hLo : ∀ w' : World, w'.rangeAt b 0 O.cs → (loadRow 43 (.pointer (some ⟨b, 0, none⟩))).run Try.prog w' = .ok (.agg O.arr) w' := fun w' h => row_ru hOok h
          clear hl5 hblk5
          have hbd : ∀ (a a' : Option Addr) (n c n' c' : Nat) (w : World), (buildRow 61 #[(0, .slice a n c), (1, .agg O.arr), (2, .slice a' n' c')]).run Try.prog w = .ok (.agg (clArr (.slice a n c) O (.slice a' n' c'))) w := built_cl hOok
          obtain ⟨C, hC1, hC2, hmk⟩ := make_hits (N + 1) (by omega)
          have hcast : ((N + 1 : Nat) : Int) = (N : Int) + 1 := rfl
          rw [hcast] at hmk hw hn1 hn2
          have HC12 := Lib.hid (And.intro hC1 hC2)
          clear hC1 hC2 hcast
          have hb5 : b < w5.heap.size := lt_of_obj HCL.out.2
          have HR5 := Lib.hid hr5
          go_region_held3 (fun w' => w'.rangeAt b 0 O.cs) (first | assumption | exact HR5.out | exact hr6 | exact range_alloc hr6 hb6 _ | exact range_alloc HR5.out hb5 _ | exact range_alloc (range_alloc hr6 hb6 _) (by simp; omega) _)
            (first
              | (go_at_call 23; refine Calls.mono (rclone_is (HCL.out.1.below ?_) (by rw [HNN.out]; omega)) ?_
                 · first | exact (Below.refl _ _).drew | exact ((Below.refl _ _).alloc (Nat.le_refl _) _).drew
                 rintro e w6 ⟨v6, rfl, ho6, hB6⟩
                 obtain ⟨va, vc, rfl⟩ := own_shape ho6
                 have hr6 : w6.rangeAt b 0 O.cs := by first | exact range_below HR5.out hb5 ((Below.refl w5.heap.size w5).drew.trans hB6) | exact range_below HR5.out hb5 (((Below.refl w5.heap.size w5).alloc (Nat.le_refl _) _).drew.trans (hB6.mono (by simp)))
                 have hb6 : b < w6.heap.size := by have := hB6.size; first | (simp at this; omega) | omega
                 have HO6 := Lib.hid ho6; have HB6 := Lib.hid hB6; clear ho6 hB6))
          all_goals
            have hB35 := H3.out.2.1.trans (HB5.out.mono H3.out.2.1.size)
            have hs35 := hB35.size
            have hlok := HCL.out.1.ok
            first
              | (with_reducible show Exit.then _ _ Exit.normal _ ((w6.alloc (.cells C 62)).alloc _)
                 have hA1 : Below w.heap.size w ((w6.alloc (.cells C 62)).alloc (.cells (clArr (.slice va l.length vc) O (.slice (some ⟨w6.heap.size, 0, none⟩) (N + 1) (N + 1))) 61)) := hB35.trans ((((Below.refl w5.heap.size w5).drew.trans HB6.out).mono hs35).trans (((Below.refl _ _).alloc (Nat.le_refl _) _).alloc (by simp) _ |>.mono (by have := HB6.out.size; simp at this; omega)))
                 have hA2 := alloc_block_at (w6.alloc (.cells C 62)) (.cells (clArr (.slice va l.length vc) O (.slice (some ⟨w6.heap.size, 0, none⟩) (N + 1) (N + 1))) 61) (show w6.heap.size + 1 = _ by simp)
                 have hA3 : ((w6.alloc (.cells C 62)).alloc (.cells (clArr (.slice va l.length vc) O (.slice (some ⟨w6.heap.size, 0, none⟩) (N + 1) (N + 1))) 61)).heap[w6.heap.size]? = some (.cells C 62 (0, 0)) := (alloc_block_old _ (by simp)).trans (alloc_block_new w6 _)
                 have hA4 := (HO6.out.alloc (.cells C 62)).alloc (.cells (clArr (.slice va l.length vc) O (.slice (some ⟨w6.heap.size, 0, none⟩) (N + 1) (N + 1))) 61)
                 have HCC := Lib.hid (And.intro hA1 (mk_C hA1 hOok hlok HNN.out (by omega) HC12.out hA2 hA3 hA4 (by simp; omega) (by have := HB6.out.size; simp at this; omega) (by have := HB6.out.size; simp at this; omega)))
                 clear hA1 hA2 hA3 hA4
                 go_wp2_with fail
                 exact bodyPost_ret (v := .tuple #[.pointer (some ⟨w6.heap.size + 1, 0, none⟩), .int .i64 0]) (by simp [results, Try.results7, go_sem]) rfl ⟨HCC.out.1, .inr (.inr ⟨by rw [HNN.out]; omega, by rw [HOE.out, hO, hA]; rfl, _, rfl, by rw [HOE.out]; exact HCC.out.2⟩)⟩)
              | (have hA1 : Below w.heap.size w (w6.alloc (.cells (clArr (.slice va l.length vc) O (.slice (some ⟨w5.heap.size, 0, none⟩) (N + 1) (N + 1))) 61)) := hB35.trans (((((Below.refl w5.heap.size w5).alloc (Nat.le_refl _) (.cells C 62)).drew.trans (HB6.out.mono (by simp))).mono hs35).trans ((Below.refl w6.heap.size w6).alloc (Nat.le_refl _) _ |>.mono (by have := HB6.out.size; simp at this; omega)))
                 have hA2 := alloc_block_new w6 (.cells (clArr (.slice va l.length vc) O (.slice (some ⟨w5.heap.size, 0, none⟩) (N + 1) (N + 1))) 61)
                 have hA3 : (w6.alloc (.cells (clArr (.slice va l.length vc) O (.slice (some ⟨w5.heap.size, 0, none⟩) (N + 1) (N + 1))) 61)).heap[w5.heap.size]? = some (.cells C 62 (0, 0)) := (alloc_block_old _ (by have := HB6.out.size; simp at this; omega)).trans ((HB6.out.block w5.heap.size (by simp)).trans (alloc_block_new w5 (.cells C 62)))
                 have hA4 := HO6.out.alloc (.cells (clArr (.slice va l.length vc) O (.slice (some ⟨w5.heap.size, 0, none⟩) (N + 1) (N + 1))) 61)
                 have HCC := Lib.hid (And.intro hA1 (mk_C hA1 hOok hlok HNN.out (by omega) HC12.out hA2 hA3 hA4 (by simp; omega) (by have := HB6.out.size; simp at this; omega) (by omega)))
                 clear hA1 hA2 hA3 hA4
                 go_wp2_with fail
                 exact bodyPost_ret (v := .tuple #[.pointer (some ⟨w6.heap.size, 0, none⟩), .int .i64 0]) (by simp [results, Try.results7, go_sem]) rfl ⟨HCC.out.1, .inr (.inr ⟨by rw [HNN.out]; omega, by rw [HOE.out, hO, hA]; rfl, _, rfl, by rw [HOE.out]; exact HCC.out.2⟩)⟩)
end Go.Proofs.Ytcbkcalemfminaa
