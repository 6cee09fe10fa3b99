/- Rules by numbers: walked. -/
import Derived.Test.YtcbkcalemfminaaRs8
namespace Go.Proofs.Ytcbkcalemfminaa
open Go.RowKit
theorem build_ad (parts : Array (Nat × Value)) : Instr.build 25 parts = buildRow 25 parts := by unfold buildRow; rfl
attribute [local go_sem ↓] load_ad load_pf load_ru load_ky load_bs build_pf build_ru build_cl build_ad rows_ru

theorem built_ad1 (s : Bool) (w : World) : (buildRow 25 #[(0, .bool s)]).run Try.prog w = .ok (.agg (Ad.blank s).arr) w := by
  unfold buildRow
  exact run_build w _ _ _ (by kernel_rfl)

/-! ### A rule's fields, set -/
theorem ru_set0 (R : Ru) (x : Int) : R.arr.setIfInBounds 0 (.int .i64 x) = ({ R with ver := x } : Ru).arr := by
  unfold Ru.arr Ru.cs
  simp
theorem ru_set1 (R : Ru) (x : Int) : R.arr.setIfInBounds 1 (.int .i64 x) = ({ R with proto := x } : Ru).arr := by
  unfold Ru.arr Ru.cs
  simp
theorem ru_tail {R : Ru} (h : R.Ok) (j : Nat) (v : Value) : R.arr.setIfInBounds (38 + j) v = (([.int .i64 R.ver, .int .i64 R.proto] : List Value) ++ R.src.cs ++ R.dst.cs ++ ([.int .u16 R.slo, .int .u16 R.shi, .int .u16 R.dlo, .int .u16 R.dhi, .bool R.deny, .int .i64 R.cls] : List Value).set j v).toArray := by
  unfold Ru.arr Ru.cs
  have h1 := Pf.len_cs h.s
  have h2 := Pf.len_cs h.d
  apply Array.ext'
  rw [Array.toList_setIfInBounds]
  show List.set _ _ _ = _
  rw [List.set_append_right _ _ (by simp [h1, h2])]
  congr 2
  simp [h1, h2]
theorem ru_set40 {R : Ru} (h : R.Ok) (x : Nat) : R.arr.setIfInBounds 40 (.int .u16 (x : Nat)) = ({ R with dlo := x } : Ru).arr := (ru_tail h 2 _).trans rfl
theorem ru_set41 {R : Ru} (h : R.Ok) (x : Nat) : R.arr.setIfInBounds 41 (.int .u16 (x : Nat)) = ({ R with dhi := x } : Ru).arr := (ru_tail h 3 _).trans rfl
theorem ru_set42 {R : Ru} (h : R.Ok) (x : Bool) : R.arr.setIfInBounds 42 (.bool x) = ({ R with deny := x } : Ru).arr := (ru_tail h 4 _).trans rfl
theorem ru_set43 {R : Ru} (h : R.Ok) (x : Int) : R.arr.setIfInBounds 43 (.int .i64 x) = ({ R with cls := x } : Ru).arr := (ru_tail h 5 _).trans rfl
theorem ru_src {R : Ru} (h : R.Ok) {p : Pf} (hp : p.a.Ok) : (R.arr.toList.take 2 ++ p.cs ++ R.arr.toList.drop (2 + p.cs.length)).toArray = ({ R with src := p } : Ru).arr := by
  have h1 := Pf.len_cs h.s
  have h2 := Pf.len_cs hp
  unfold Ru.arr
  congr 1
  rw [h2]
  show (R.cs.take 2 ++ p.cs ++ R.cs.drop 20) = _
  have e : R.cs = [.int .i64 R.ver, .int .i64 R.proto] ++ (R.src.cs ++ (R.dst.cs ++ [.int .u16 R.slo, .int .u16 R.shi, .int .u16 R.dlo, .int .u16 R.dhi, .bool R.deny, .int .i64 R.cls])) := by unfold Ru.cs; simp
  rw [e]
  have e2 : ([.int .i64 R.ver, .int .i64 R.proto] ++ (R.src.cs ++ (R.dst.cs ++ [.int .u16 R.slo, .int .u16 R.shi, .int .u16 R.dlo, .int .u16 R.dhi, .bool R.deny, .int .i64 R.cls])) : List Value).drop 20 = R.dst.cs ++ [.int .u16 R.slo, .int .u16 R.shi, .int .u16 R.dlo, .int .u16 R.dhi, .bool R.deny, .int .i64 R.cls] := by
    rw [← List.append_assoc, List.drop_left' (by simp [h1])]
  rw [e2]
  unfold Ru.cs
  simp
theorem ru_dst {R : Ru} (h : R.Ok) {p : Pf} (hp : p.a.Ok) : (R.arr.toList.take 20 ++ p.cs ++ R.arr.toList.drop (20 + p.cs.length)).toArray = ({ R with dst := p } : Ru).arr := by
  have h1 := Pf.len_cs h.s
  have h3 := Pf.len_cs h.d
  have h2 := Pf.len_cs hp
  unfold Ru.arr
  congr 1
  rw [h2]
  show (R.cs.take 20 ++ p.cs ++ R.cs.drop 38) = _
  have e : R.cs = ([.int .i64 R.ver, .int .i64 R.proto] ++ R.src.cs) ++ (R.dst.cs ++ [.int .u16 R.slo, .int .u16 R.shi, .int .u16 R.dlo, .int .u16 R.dhi, .bool R.deny, .int .i64 R.cls]) := by unfold Ru.cs; simp
  have e1 : R.cs.take 20 = [.int .i64 R.ver, .int .i64 R.proto] ++ R.src.cs := by rw [e, List.take_left' (by simp [h1])]
  have e2 : R.cs.drop 38 = [.int .u16 R.slo, .int .u16 R.shi, .int .u16 R.dlo, .int .u16 R.dhi, .bool R.deny, .int .i64 R.cls] := by
    rw [e, ← List.append_assoc, List.drop_left' (by simp [h1, h3])]
  rw [e1, e2]
  unfold Ru.cs
  simp

/-- A rule in a variable of the loop's own. -/
structure RV (W w0 w : World) (b : Nat) (R : Ru) : Prop where
  bel : Below w0.heap.size w0 w
  blk : w.heap[b]? = some (.cells R.arr 43 (0, 0))
  ok : R.Ok
  ge : w0.heap.size ≤ b
theorem RV.below {W w0 w w' : World} {b : Nat} {R : Ru} (h : RV W w0 w b R) (hB : Below w.heap.size w w') : RV W w0 w' b R := ⟨h.bel.trans (hB.mono h.bel.size), (hB.block _ (lt_of_obj h.blk)).trans h.blk, h.ok, h.ge⟩
theorem RV.alloc {W w0 w : World} {b : Nat} {R : Ru} (h : RV W w0 w b R) (o : Obj) : RV W w0 (w.alloc o) b R := h.below ((Below.refl _ _).alloc (Nat.le_refl _) _)
theorem RV.set {W w0 w : World} {b : Nat} {R R' : Ru} (h : RV W w0 w b R) {i : Nat} {v : Value} (e : R.arr.setIfInBounds i v = R'.arr) (hR : R'.Ok) : RV W w0 (w.setCell ⟨b, i, none⟩ v) b R' :=
  ⟨h.bel.setCell (p := ⟨b, i, none⟩) h.ge _, by rw [setCell_block h.blk, e], hR, h.ge⟩
theorem RV.ver {W w0 w : World} {b : Nat} {R : Ru} (h : RV W w0 w b R) (x : Int) : RV W w0 (w.setCell ⟨b, 0, none⟩ (.int .i64 x)) b { R with ver := x } := h.set (ru_set0 R x) ⟨h.ok.s, h.ok.d, h.ok.p⟩
theorem RV.proto {W w0 w : World} {b : Nat} {R : Ru} (h : RV W w0 w b R) (x : Int) : RV W w0 (w.setCell ⟨b, 1, none⟩ (.int .i64 x)) b { R with proto := x } := h.set (ru_set1 R x) ⟨h.ok.s, h.ok.d, h.ok.p⟩
theorem RV.dports {W w0 w : World} {b : Nat} {R : Ru} (h : RV W w0 w b R) (x y : Nat) (hx : x < 65536) (hy : y < 65536) : RV W w0 ((w.setCell ⟨b, 40, none⟩ (.int .u16 (x : Nat))).setCell ⟨b, 41, none⟩ (.int .u16 (y : Nat))) b { R with dlo := x, dhi := y } :=
  RV.set (R := { R with dlo := x }) (h.set (ru_set40 h.ok x) ⟨h.ok.s, h.ok.d, h.ok.p.1, h.ok.p.2.1, hx, h.ok.p.2.2.2⟩) (ru_set41 (R := { R with dlo := x }) ⟨h.ok.s, h.ok.d, h.ok.p.1, h.ok.p.2.1, hx, h.ok.p.2.2.2⟩ y) ⟨h.ok.s, h.ok.d, h.ok.p.1, h.ok.p.2.1, hx, hy⟩
theorem RV.deny {W w0 w : World} {b : Nat} {R : Ru} (h : RV W w0 w b R) (x : Bool) : RV W w0 (w.setCell ⟨b, 42, none⟩ (.bool x)) b { R with deny := x } := h.set (ru_set42 h.ok x) ⟨h.ok.s, h.ok.d, h.ok.p⟩
theorem RV.cls {W w0 w : World} {b : Nat} {R : Ru} (h : RV W w0 w b R) (x : Int) : RV W w0 (w.setCell ⟨b, 43, none⟩ (.int .i64 x)) b { R with cls := x } := h.set (ru_set43 h.ok x) ⟨h.ok.s, h.ok.d, h.ok.p⟩
/-- The cells that are written. -/
theorem RV.cells {W w0 w : World} {b : Nat} {R : Ru} (h : RV W w0 w b R) : (w.cell? ⟨b, 40, none⟩ = some (.int .u16 R.dlo) ∧ w.cell? ⟨b, 41, none⟩ = some (.int .u16 R.dhi) ∧ w.cell? ⟨b, 42, none⟩ = some (.bool R.deny) ∧ w.cell? ⟨b, 43, none⟩ = some (.int .i64 R.cls)) ∧ ∀ i, w.frozen? ⟨b, i, none⟩ = false :=
  have hr := range_block h.blk
  ⟨⟨Ru.c40 h.ok hr, Ru.c41 h.ok hr, Ru.c42 h.ok hr, Ru.c43 h.ok hr⟩, fun i => free_of_block h.blk i⟩

/-- Ahead of each rule. -/
def SoRel (W : World) (n i v : Value) (w : World) : Prop :=
  ∃ (m k : Nat) (l : List Ru), n = .int .i64 m ∧ m < 100003 ∧ i = .int .i64 k ∧ k ≤ 6 ∧ l.length = k ∧ (∀ r ∈ l, r.Ok) ∧ w.ownsRow W.heap.size 43 44 v k (rsCells l) ∧ Below W.heap.size W w

/-- Behind some. -/
def SomeOk (w : World) (e : Ending) (w' : World) : Prop := ∃ v l, e = .returned v ∧ l.length ≤ 6 ∧ (∀ r ∈ l, r.Ok) ∧ OwnRules w' w.heap.size v l ∧ Below w.heap.size w w'

set_option maxRecDepth 100000 in
set_option maxHeartbeats 4000000 in
theorem some_is (n : Nat) (hn : n < 100003) (w : World) :
    Calls Try.prog 15 #[.int .i64 n] w (SomeOk w) := by
  obtain ⟨i0, hi0, hz0, hz1, hz2⟩ := info_parts info_ru
  have HI := Lib.hid (And.intro hi0 (And.intro hz0 (And.intro hz1 hz2)))
  clear hi0 hz0 hz1 hz2
  go_enter Try.func15, Try.ntmps15
  go_wp2_with fail
  go_loopw [0, 4, 3] (SoRel w) (fun _ i _ _ => 7 - (intOf i).toNat)
  case atStart => exact ⟨n, 0, [], rfl, hn, rfl, by omega, rfl, fun r hr => by simp at hr, World.ownsRow_nil _ _ _ _, Below.refl _ _⟩
  case round =>
    obtain ⟨m, k, l, rfl, hm, rfl, hk, hl, hok, hrow, hB⟩ := hrel
    obtain ⟨va, vc, rfl⟩ := own_shape hrow
    have hm7 : m % 7 ≤ 6 := by omega
    by_cases hlt : k < m % 7
    · have hki : (k : Int) < (m : Int) % 7 := by omega
      have HS := Lib.hid (And.intro hrow (And.intro hB (And.intro hl hok)))
      have hBs := hB.size
      obtain ⟨wl, rfl⟩ : ∃ wo : World, wo = wr := ⟨_, rfl⟩
      clear hrow hB hl hok
      go_wp2_with fail
      refine (any_is _).mono ?_
      rintro e w2 ⟨rfl, hB2⟩
      have HB2 := Lib.hid hB2
      clear hB2
      go_wp2_with (first | (refine wpList_store_blk rfl 43 (.tmp 5) (.tmp 13) rfl w2.heap.size Ru.any.arr rfl rfl 43 Ru.zero.arr (alloc_block_new w2 (.cells Ru.zero.arr 43)) (by kernel_rfl) rfl (by kernel_rfl) ?_))
      intro w3 hS
      have R3 : RV w wl w3 w2.heap.size Ru.any := ⟨HB2.out.trans ((((Below.refl _ _).alloc (Nat.le_refl _) (.cells Ru.zero.arr 43)).trans (hS.only.below (by simp) (fun k hk e => by omega))).mono HB2.out.size), hS.blk, Ru.any_ok, HB2.out.size⟩
      generalize w2.heap.size = b at *
      have HR3 := Lib.hid R3
      clear hS R3 HB2
      go_upto_region 6 with (fail)
      go_cut [18] (fun v w' => ∃ (x : Int) (R : Ru), v = .int .i64 x ∧ RV w wl w' b R)
      case first =>
        have h5 : (m : Int) % 5 = 0 ∨ (m : Int) % 5 = 1 ∨ (m : Int) % 5 = 2 ∨ (m : Int) % 5 = 3 ∨ (m : Int) % 5 = 4 := by omega
        have f0 := free_of_block HR3.out.blk 0
        have c0 := Ru.c0 (range_block HR3.out.blk)
        have hbl := lt_of_obj HR3.out.blk
        have hbn : ¬ b = w3.heap.size := by omega
        rcases h5 with h5 | h5 | h5 | h5 | h5
        all_goals
          go_wp2_with fail
          go_meet
          case rel => exact ⟨_, _, rfl, (HR3.out.ver _).alloc _⟩
      case rest =>
        obtain ⟨x, R, rfl, hR⟩ := hcut
        obtain ⟨w4, rfl⟩ : ∃ wo : World, wo = wc := ⟨_, rfl⟩
        have HR4 := Lib.hid hR
        clear hR HR3
        go_upto_region 7 with (fail)
        go_cut [25] (fun v w' => ∃ (x : Int) (R : Ru), v = .int .i64 x ∧ RV w wl w' b R)
        case first =>
          have h5 : (m : Int) / 3 % 5 = 0 ∨ (m : Int) / 3 % 5 = 1 ∨ (m : Int) / 3 % 5 = 2 ∨ (m : Int) / 3 % 5 = 3 ∨ (m : Int) / 3 % 5 = 4 := by omega
          have f0 := free_of_block HR4.out.blk 1
          have c0 := Ru.c1 (range_block HR4.out.blk)
          have hbl := lt_of_obj HR4.out.blk
          have hbn : ¬ b = w4.heap.size := by omega
          rcases h5 with h5 | h5 | h5 | h5 | h5
          all_goals
            go_wp2_with fail
            go_meet
            case rel => exact ⟨_, _, rfl, (HR4.out.proto _).alloc _⟩
        case rest =>
          obtain ⟨x2, R5, rfl, hR⟩ := hcut
          obtain ⟨w5, rfl⟩ : ∃ wo : World, wo = wc := ⟨_, rfl⟩
          have HR5 := Lib.hid hR
          have hm8 : IntKind.u8.wrap (m : Int) = ((m % 256 : Nat) : Int) := by
            show (m : Int) % 256 = _
            omega
          have h256 : m % 256 < 256 := by omega
          clear hR HR4
          go_wp2_with fail
          refine (four_is (a := 10) (b := m % 256) (c := 0) (d := 0) (by decide) h256 (by decide) (by decide) _).mono ?_
          rintro e w6 ⟨rfl, hB6⟩
          have HR6 := Lib.hid (HR5.out.below hB6)
          clear hB6 HR5
          go_wp2_with fail
          refine (cut_is (fourA_ok (by decide) h256 (by decide) (by decide)) _ _).mono ?_
          rintro e w7 ⟨rfl, hB7⟩
          have R7 := HR6.out.below hB7
          have hpo := Ad.cut_ok (fourA_ok (a := 10) (b := m % 256) (c := 0) (d := 0) (by decide) h256 (by decide) (by decide)) ((m : Int) / 5 % 33)
          generalize (fourA 10 (m % 256) 0 0).cut ((m : Int) / 5 % 33) = P at *
          have HR7 := Lib.hid R7
          clear hB7 R7 HR6
          go_wp2_with (first | (refine wpList_store_at rfl 39 (.tmp 34) (.tmp 33) rfl b 2 (.agg P.arr) rfl rfl 43 R5.arr HR7.out.blk P.cs rfl (by rw [Pf.len_cs hpo]; kernel_rfl) (by rw [Pf.len_cs hpo, Ru.arr_size HR7.out.ok]; decide) P.one ?_))
          intro w8 hS8
          have R8 : RV w wl w8 b { R5 with src := P } := ⟨HR7.out.bel.trans (hS8.only.below HR7.out.bel.size (fun j hj e => by have := HR7.out.ge; omega)), by rw [← ru_src HR7.out.ok hpo]; exact hS8.blk, ⟨hpo, HR7.out.ok.d, HR7.out.ok.p⟩, HR7.out.ge⟩
          generalize ({ R5 with src := P } : Ru) = R9 at *
          have HR8 := Lib.hid R8
          clear hS8 R8 HR7
          go_upto_region 9 with (fail)
          clear hpo
          by_cases h11 : (m : Int) % 11 = 0
          · have hb1 := built_ad1 true
            have hbl := lt_of_obj HR8.out.blk
            go_wp2_with (first | (refine wpList_store_blk rfl 25 (.tmp 6) (.tmp 38) rfl w8.heap.size (Ad.blank true).arr rfl rfl 25 Ad.zero.arr (alloc_block_new w8 (.cells Ad.zero.arr 25)) (by kernel_rfl) rfl (by kernel_rfl) ?_))
            intro w9 hS9
            have hB9 : Below w8.heap.size w8 w9 := ((Below.refl _ _).alloc (Nat.le_refl _) (.cells Ad.zero.arr 25)).trans (hS9.only.below (by simp) (fun k hk e => by omega))
            have R9' := HR8.out.below hB9
            have hc9 := hS9.blk
            generalize w8.heap.size = c at *
            have y0 : w9.cell? ⟨c, 1, none⟩ = some (.int .u8 0) := (cell_of_block hc9 1).trans rfl
            have y1 : w9.frozen? ⟨c, 1, none⟩ = false := free_of_block hc9 1
            have HR9 := Lib.hid (And.intro R9' hc9)
            clear hS9 hB9 R9' hc9 HR8
            go_upto_region 12 with (fail)
            have hbk := setCell_block HR9.out.2 1 (.int .u8 ((m % 256 : Nat) : Int))
            have hO9 : Only (· = c) w9 (w9.setCell ⟨c, 1, none⟩ (.int .u8 ((m % 256 : Nat) : Int))) := Only.setCell (p := ⟨c, 1, none⟩) (Only.refl (· = c) w9) (fun _ => rfl) _
            have R10' : RV w wl (w9.setCell ⟨c, 1, none⟩ (.int .u8 ((m % 256 : Nat) : Int))) b R9 := ⟨HR9.out.1.bel.trans (hO9.below HR9.out.1.bel.size (fun j hj e => by have := HR9.out.1.ge; omega)), hO9.keep HR9.out.1.blk (by omega), HR9.out.1.ok, HR9.out.1.ge⟩
            have ha : (Ad.mk true ((List.replicate 16 0).set 0 (m % 256))).Ok := ⟨by simp, fun x hx => (List.mem_or_eq_of_mem_set hx).elim (fun h => by rw [(List.mem_replicate.1 h).2]; decide) (fun e => by rw [e]; exact h256)⟩
            rw [show (Ad.blank true).arr.setIfInBounds 1 (.int .u8 ((m % 256 : Nat) : Int)) = (Ad.mk true ((List.replicate 16 0).set 0 (m % 256))).arr from arr_set true (List.replicate 16 0) 0 (m % 256)] at hbk
            have e8 : (m : Int) % 256 = ((m % 256 : Nat) : Int) := by omega
            rw [e8]
            generalize w9.setCell ⟨c, 1, none⟩ (.int .u8 ((m % 256 : Nat) : Int)) = w10 at *
            generalize Ad.mk true ((List.replicate 16 0).set 0 (m % 256)) = A at *
            have hL := row_ad ha (range_block hbk)
            have HR10 := Lib.hid R10'
            clear hbk hO9 R10' HR9 y0 y1 e8
            go_wp2_with fail
            refine (cut_is ha _ _).mono ?_
            rintro e w11 ⟨rfl, hB11⟩
            have R11 := HR10.out.below hB11
            have hpo := Ad.cut_ok ha ((m : Int) / 7 % 129)
            generalize A.cut ((m : Int) / 7 % 129) = P2 at *
            have HR11 := Lib.hid R11
            clear hB11 R11 HR10 hL
            go_wp2_with (first | (refine wpList_store_at rfl 39 (.tmp 48) (.tmp 47) rfl b 20 (.agg P2.arr) rfl rfl 43 R9.arr HR11.out.blk P2.cs rfl (by rw [Pf.len_cs hpo]; kernel_rfl) (by rw [Pf.len_cs hpo, Ru.arr_size HR11.out.ok]; decide) P2.one ?_))
            intro w12 hS12
            have R12 : RV w wl w12 b { R9 with dst := P2 } := ⟨HR11.out.bel.trans (hS12.only.below HR11.out.bel.size (fun j hj e => by have := HR11.out.ge; omega)), by rw [← ru_dst HR11.out.ok hpo, List.append_assoc]; exact hS12.blk, ⟨HR11.out.ok.s, hpo, HR11.out.ok.p⟩, HR11.out.ge⟩
            generalize ({ R9 with dst := P2 } : Ru) = RB at *
            have HRB := Lib.hid R12
            clear hS12 R12 HR11 hpo
            obtain ⟨wb, rfl⟩ : ∃ wo : World, wo = w12 := ⟨_, rfl⟩
            go_upto_region 13 with (fail)
            obtain ⟨⟨c40, c41, _, _⟩, hfz⟩ := HRB.out.cells
            by_cases h3 : (m : Int) % 3 = 0
            · have f40 := hfz 40
              have f41 := hfz 41
              have i1 : IntKind.u16.wrap ((m : Int) % 100) = ((m % 100 : Nat) : Int) := by rw [IntWalk.u16_in _ (by omega)]; rfl
              have i2 : IntKind.u16.wrap ((m : Int) / 2 % 100 + 5) = ((m / 2 % 100 + 5 : Nat) : Int) := by rw [IntWalk.u16_in _ (by omega)]; rfl
              have R14 : RV w wl ((wb.setCell ⟨b, 40, none⟩ (.int .u16 ((m : Int) % 100))).setCell ⟨b, 41, none⟩ (.int .u16 ((m : Int) / 2 % 100 + 5))) b { RB with dlo := m % 100, dhi := m / 2 % 100 + 5 } := HRB.out.dports (m % 100) (m / 2 % 100 + 5) (by omega) (by omega)
              go_upto_region 15 with (fail)
              generalize (wb.setCell ⟨b, 40, none⟩ (.int .u16 ((m : Int) % 100))).setCell ⟨b, 41, none⟩ (.int .u16 ((m : Int) / 2 % 100 + 5)) = wd at *
              generalize ({ RB with dlo := m % 100, dhi := m / 2 % 100 + 5 } : Ru) = RC at *
              have HRC := Lib.hid R14
              clear R14 HRB c40 c41 hfz f40 f41 i1 i2
              obtain ⟨⟨_, _, c42, c43⟩, hfz⟩ := HRC.out.cells
              have f42 := hfz 42
              have f43 := hfz 43
              clear hfz
              by_cases h4 : (m : Int) % 4 = 0
              · have R19 := ((HRC.out.deny true).cls ((m : Int) / 9 % 9)).cls 0
                go_upto_region 19 with (fail)
                generalize ({ RC with deny := true, cls := 0 } : Ru) = RD at *
                generalize ((wd.setCell ⟨b, 42, none⟩ (.bool true)).setCell ⟨b, 43, none⟩ (.int .i64 ((m : Int) / 9 % 9))).setCell ⟨b, 43, none⟩ (.int .i64 0) = w19 at *
                have hL := row_ru R19.ok (range_block R19.blk)
                have hbt := built_rus R19.ok
                have ho19 := own_kept HS.out.1 R19.bel
                have hdo := R19.ok
                have HR19 := Lib.hid (And.intro ho19 R19.bel)
                have hs19 := R19.bel.size
                obtain ⟨hi0, hz0, hz1, hz2⟩ := HI.out
                clear R19 HRC ho19 c42 c43 f42 f43
                go_wp2_with (first | (at_builtin; refine wpList_append_own _ rfl (.tmp 73) (.tmp 75) 22 rfl w.heap.size 43 i0 _ 44 104 Try.underlying22 hi0 hz0 hz1 hz2 rfl (by decide) (.slice va k vc) k (rsCells l) rfl (HR19.out.1.alloc _) ⟨w19.heap.size, 0, none⟩ 1 1 RD.cs rfl (by rw [hdo.len]) (fun j u hj => by rw [Addr.add_lit]; exact range_block (alloc_block_new w19 (.cells RD.arr 43)) j u hj) RD.one (by unfold maxLen; omega) (by omega) (by simp; omega) ?_))
                intro v' w' ho hg _
                obtain ⟨ua, uc, rfl⟩ := own_shape ho
                have hB' : Below w.heap.size w w' := (HS.out.2.1.trans (HR19.out.2.mono HS.out.2.1.size)).trans (((Below.only ((Below.refl w19.heap.size w19).alloc (Nat.le_refl _) (.cells RD.arr 43)) (fun q => (Value.slice va k vc).ownBlock = some q)).grown hg (fun q hq _ => hq)).below (B := w.heap.size) (by omega) (fun q hq e => by have := own_ge HS.out.1 q e; omega))
                have HN : Hid (SoRel w (.int .i64 ((m * 31 + 17 * k + 7) % 100003 : Nat)) (.int .i64 (k + 1 : Nat)) (.slice ua (k + 1) uc) w') := ⟨(m * 31 + 17 * k + 7) % 100003, k + 1, l ++ [RD], rfl, Nat.mod_lt _ (by decide), rfl, by omega, by rw [List.length_append, HS.out.2.2.1]; rfl, fun x hx => by
                  rcases List.mem_append.1 hx with h | h
                  · exact HS.out.2.2.2 x h
                  · simp at h; rw [h]; exact hdo, by
                  rw [rsCells_app]
                  simpa [rsCells] using ho, hB'⟩
                clear ho hg hB' hi0 hz0 hz1 hz2 hL hbt
                go_wp2_with fail
                go_roundw
                case rel => exact HN.out
                case measure => simp [intOf]; omega
              · have h4b : ((m : Int) % 4 == 0) = false := by simpa using h4
                have R19 := (HRC.out.deny false).cls ((m : Int) / 9 % 9)
                go_upto_region 19 with (fail)
                generalize ({ RC with deny := false, cls := (m : Int) / 9 % 9 } : Ru) = RD at *
                generalize (wd.setCell ⟨b, 42, none⟩ (.bool false)).setCell ⟨b, 43, none⟩ (.int .i64 ((m : Int) / 9 % 9)) = w19 at *
                have hL := row_ru R19.ok (range_block R19.blk)
                have hbt := built_rus R19.ok
                have ho19 := own_kept HS.out.1 R19.bel
                have hdo := R19.ok
                have HR19 := Lib.hid (And.intro ho19 R19.bel)
                have hs19 := R19.bel.size
                obtain ⟨hi0, hz0, hz1, hz2⟩ := HI.out
                clear R19 HRC ho19 c42 c43 f42 f43
                go_wp2_with (first | (at_builtin; refine wpList_append_own _ rfl (.tmp 73) (.tmp 75) 22 rfl w.heap.size 43 i0 _ 44 104 Try.underlying22 hi0 hz0 hz1 hz2 rfl (by decide) (.slice va k vc) k (rsCells l) rfl (HR19.out.1.alloc _) ⟨w19.heap.size, 0, none⟩ 1 1 RD.cs rfl (by rw [hdo.len]) (fun j u hj => by rw [Addr.add_lit]; exact range_block (alloc_block_new w19 (.cells RD.arr 43)) j u hj) RD.one (by unfold maxLen; omega) (by omega) (by simp; omega) ?_))
                intro v' w' ho hg _
                obtain ⟨ua, uc, rfl⟩ := own_shape ho
                have hB' : Below w.heap.size w w' := (HS.out.2.1.trans (HR19.out.2.mono HS.out.2.1.size)).trans (((Below.only ((Below.refl w19.heap.size w19).alloc (Nat.le_refl _) (.cells RD.arr 43)) (fun q => (Value.slice va k vc).ownBlock = some q)).grown hg (fun q hq _ => hq)).below (B := w.heap.size) (by omega) (fun q hq e => by have := own_ge HS.out.1 q e; omega))
                have HN : Hid (SoRel w (.int .i64 ((m * 31 + 17 * k + 7) % 100003 : Nat)) (.int .i64 (k + 1 : Nat)) (.slice ua (k + 1) uc) w') := ⟨(m * 31 + 17 * k + 7) % 100003, k + 1, l ++ [RD], rfl, Nat.mod_lt _ (by decide), rfl, by omega, by rw [List.length_append, HS.out.2.2.1]; rfl, fun x hx => by
                  rcases List.mem_append.1 hx with h | h
                  · exact HS.out.2.2.2 x h
                  · simp at h; rw [h]; exact hdo, by
                  rw [rsCells_app]
                  simpa [rsCells] using ho, hB'⟩
                clear ho hg hB' hi0 hz0 hz1 hz2 hL hbt
                go_wp2_with fail
                go_roundw
                case rel => exact HN.out
                case measure => simp [intOf]; omega
            · go_upto_region 15 with (fail)
              obtain ⟨wd, rfl⟩ : ∃ wo : World, wo = wb := ⟨_, rfl⟩
              obtain ⟨RC, rfl⟩ : ∃ ro : Ru, ro = RB := ⟨_, rfl⟩
              have HRC := Lib.hid HRB.out
              clear HRB c40 c41 hfz
              obtain ⟨⟨_, _, c42, c43⟩, hfz⟩ := HRC.out.cells
              have f42 := hfz 42
              have f43 := hfz 43
              clear hfz
              by_cases h4 : (m : Int) % 4 = 0
              · have R19 := ((HRC.out.deny true).cls ((m : Int) / 9 % 9)).cls 0
                go_upto_region 19 with (fail)
                generalize ({ RC with deny := true, cls := 0 } : Ru) = RD at *
                generalize ((wd.setCell ⟨b, 42, none⟩ (.bool true)).setCell ⟨b, 43, none⟩ (.int .i64 ((m : Int) / 9 % 9))).setCell ⟨b, 43, none⟩ (.int .i64 0) = w19 at *
                have hL := row_ru R19.ok (range_block R19.blk)
                have hbt := built_rus R19.ok
                have ho19 := own_kept HS.out.1 R19.bel
                have hdo := R19.ok
                have HR19 := Lib.hid (And.intro ho19 R19.bel)
                have hs19 := R19.bel.size
                obtain ⟨hi0, hz0, hz1, hz2⟩ := HI.out
                clear R19 HRC ho19 c42 c43 f42 f43
                go_wp2_with (first | (at_builtin; refine wpList_append_own _ rfl (.tmp 73) (.tmp 75) 22 rfl w.heap.size 43 i0 _ 44 104 Try.underlying22 hi0 hz0 hz1 hz2 rfl (by decide) (.slice va k vc) k (rsCells l) rfl (HR19.out.1.alloc _) ⟨w19.heap.size, 0, none⟩ 1 1 RD.cs rfl (by rw [hdo.len]) (fun j u hj => by rw [Addr.add_lit]; exact range_block (alloc_block_new w19 (.cells RD.arr 43)) j u hj) RD.one (by unfold maxLen; omega) (by omega) (by simp; omega) ?_))
                intro v' w' ho hg _
                obtain ⟨ua, uc, rfl⟩ := own_shape ho
                have hB' : Below w.heap.size w w' := (HS.out.2.1.trans (HR19.out.2.mono HS.out.2.1.size)).trans (((Below.only ((Below.refl w19.heap.size w19).alloc (Nat.le_refl _) (.cells RD.arr 43)) (fun q => (Value.slice va k vc).ownBlock = some q)).grown hg (fun q hq _ => hq)).below (B := w.heap.size) (by omega) (fun q hq e => by have := own_ge HS.out.1 q e; omega))
                have HN : Hid (SoRel w (.int .i64 ((m * 31 + 17 * k + 7) % 100003 : Nat)) (.int .i64 (k + 1 : Nat)) (.slice ua (k + 1) uc) w') := ⟨(m * 31 + 17 * k + 7) % 100003, k + 1, l ++ [RD], rfl, Nat.mod_lt _ (by decide), rfl, by omega, by rw [List.length_append, HS.out.2.2.1]; rfl, fun x hx => by
                  rcases List.mem_append.1 hx with h | h
                  · exact HS.out.2.2.2 x h
                  · simp at h; rw [h]; exact hdo, by
                  rw [rsCells_app]
                  simpa [rsCells] using ho, hB'⟩
                clear ho hg hB' hi0 hz0 hz1 hz2 hL hbt
                go_wp2_with fail
                go_roundw
                case rel => exact HN.out
                case measure => simp [intOf]; omega
              · have h4b : ((m : Int) % 4 == 0) = false := by simpa using h4
                have R19 := (HRC.out.deny false).cls ((m : Int) / 9 % 9)
                go_upto_region 19 with (fail)
                generalize ({ RC with deny := false, cls := (m : Int) / 9 % 9 } : Ru) = RD at *
                generalize (wd.setCell ⟨b, 42, none⟩ (.bool false)).setCell ⟨b, 43, none⟩ (.int .i64 ((m : Int) / 9 % 9)) = w19 at *
                have hL := row_ru R19.ok (range_block R19.blk)
                have hbt := built_rus R19.ok
                have ho19 := own_kept HS.out.1 R19.bel
                have hdo := R19.ok
                have HR19 := Lib.hid (And.intro ho19 R19.bel)
                have hs19 := R19.bel.size
                obtain ⟨hi0, hz0, hz1, hz2⟩ := HI.out
                clear R19 HRC ho19 c42 c43 f42 f43
                go_wp2_with (first | (at_builtin; refine wpList_append_own _ rfl (.tmp 73) (.tmp 75) 22 rfl w.heap.size 43 i0 _ 44 104 Try.underlying22 hi0 hz0 hz1 hz2 rfl (by decide) (.slice va k vc) k (rsCells l) rfl (HR19.out.1.alloc _) ⟨w19.heap.size, 0, none⟩ 1 1 RD.cs rfl (by rw [hdo.len]) (fun j u hj => by rw [Addr.add_lit]; exact range_block (alloc_block_new w19 (.cells RD.arr 43)) j u hj) RD.one (by unfold maxLen; omega) (by omega) (by simp; omega) ?_))
                intro v' w' ho hg _
                obtain ⟨ua, uc, rfl⟩ := own_shape ho
                have hB' : Below w.heap.size w w' := (HS.out.2.1.trans (HR19.out.2.mono HS.out.2.1.size)).trans (((Below.only ((Below.refl w19.heap.size w19).alloc (Nat.le_refl _) (.cells RD.arr 43)) (fun q => (Value.slice va k vc).ownBlock = some q)).grown hg (fun q hq _ => hq)).below (B := w.heap.size) (by omega) (fun q hq e => by have := own_ge HS.out.1 q e; omega))
                have HN : Hid (SoRel w (.int .i64 ((m * 31 + 17 * k + 7) % 100003 : Nat)) (.int .i64 (k + 1 : Nat)) (.slice ua (k + 1) uc) w') := ⟨(m * 31 + 17 * k + 7) % 100003, k + 1, l ++ [RD], rfl, Nat.mod_lt _ (by decide), rfl, by omega, by rw [List.length_append, HS.out.2.2.1]; rfl, fun x hx => by
                  rcases List.mem_append.1 hx with h | h
                  · exact HS.out.2.2.2 x h
                  · simp at h; rw [h]; exact hdo, by
                  rw [rsCells_app]
                  simpa [rsCells] using ho, hB'⟩
                clear ho hg hB' hi0 hz0 hz1 hz2 hL hbt
                go_wp2_with fail
                go_roundw
                case rel => exact HN.out
                case measure => simp [intOf]; omega
          · obtain ⟨wb, rfl⟩ : ∃ wo : World, wo = w8 := ⟨_, rfl⟩
            obtain ⟨RB, rfl⟩ : ∃ ro : Ru, ro = R9 := ⟨_, rfl⟩
            have HRB := Lib.hid HR8.out
            clear HR8
            go_upto_region 13 with (fail)
            obtain ⟨⟨c40, c41, _, _⟩, hfz⟩ := HRB.out.cells
            by_cases h3 : (m : Int) % 3 = 0
            · have f40 := hfz 40
              have f41 := hfz 41
              have i1 : IntKind.u16.wrap ((m : Int) % 100) = ((m % 100 : Nat) : Int) := by rw [IntWalk.u16_in _ (by omega)]; rfl
              have i2 : IntKind.u16.wrap ((m : Int) / 2 % 100 + 5) = ((m / 2 % 100 + 5 : Nat) : Int) := by rw [IntWalk.u16_in _ (by omega)]; rfl
              have R14 : RV w wl ((wb.setCell ⟨b, 40, none⟩ (.int .u16 ((m : Int) % 100))).setCell ⟨b, 41, none⟩ (.int .u16 ((m : Int) / 2 % 100 + 5))) b { RB with dlo := m % 100, dhi := m / 2 % 100 + 5 } := HRB.out.dports (m % 100) (m / 2 % 100 + 5) (by omega) (by omega)
              go_upto_region 15 with (fail)
              generalize (wb.setCell ⟨b, 40, none⟩ (.int .u16 ((m : Int) % 100))).setCell ⟨b, 41, none⟩ (.int .u16 ((m : Int) / 2 % 100 + 5)) = wd at *
              generalize ({ RB with dlo := m % 100, dhi := m / 2 % 100 + 5 } : Ru) = RC at *
              have HRC := Lib.hid R14
              clear R14 HRB c40 c41 hfz f40 f41 i1 i2
              obtain ⟨⟨_, _, c42, c43⟩, hfz⟩ := HRC.out.cells
              have f42 := hfz 42
              have f43 := hfz 43
              clear hfz
              by_cases h4 : (m : Int) % 4 = 0
              · have R19 := ((HRC.out.deny true).cls ((m : Int) / 9 % 9)).cls 0
                go_upto_region 19 with (fail)
                generalize ({ RC with deny := true, cls := 0 } : Ru) = RD at *
                generalize ((wd.setCell ⟨b, 42, none⟩ (.bool true)).setCell ⟨b, 43, none⟩ (.int .i64 ((m : Int) / 9 % 9))).setCell ⟨b, 43, none⟩ (.int .i64 0) = w19 at *
                have hL := row_ru R19.ok (range_block R19.blk)
                have hbt := built_rus R19.ok
                have ho19 := own_kept HS.out.1 R19.bel
                have hdo := R19.ok
                have HR19 := Lib.hid (And.intro ho19 R19.bel)
                have hs19 := R19.bel.size
                obtain ⟨hi0, hz0, hz1, hz2⟩ := HI.out
                clear R19 HRC ho19 c42 c43 f42 f43
                go_wp2_with (first | (at_builtin; refine wpList_append_own _ rfl (.tmp 73) (.tmp 75) 22 rfl w.heap.size 43 i0 _ 44 104 Try.underlying22 hi0 hz0 hz1 hz2 rfl (by decide) (.slice va k vc) k (rsCells l) rfl (HR19.out.1.alloc _) ⟨w19.heap.size, 0, none⟩ 1 1 RD.cs rfl (by rw [hdo.len]) (fun j u hj => by rw [Addr.add_lit]; exact range_block (alloc_block_new w19 (.cells RD.arr 43)) j u hj) RD.one (by unfold maxLen; omega) (by omega) (by simp; omega) ?_))
                intro v' w' ho hg _
                obtain ⟨ua, uc, rfl⟩ := own_shape ho
                have hB' : Below w.heap.size w w' := (HS.out.2.1.trans (HR19.out.2.mono HS.out.2.1.size)).trans (((Below.only ((Below.refl w19.heap.size w19).alloc (Nat.le_refl _) (.cells RD.arr 43)) (fun q => (Value.slice va k vc).ownBlock = some q)).grown hg (fun q hq _ => hq)).below (B := w.heap.size) (by omega) (fun q hq e => by have := own_ge HS.out.1 q e; omega))
                have HN : Hid (SoRel w (.int .i64 ((m * 31 + 17 * k + 7) % 100003 : Nat)) (.int .i64 (k + 1 : Nat)) (.slice ua (k + 1) uc) w') := ⟨(m * 31 + 17 * k + 7) % 100003, k + 1, l ++ [RD], rfl, Nat.mod_lt _ (by decide), rfl, by omega, by rw [List.length_append, HS.out.2.2.1]; rfl, fun x hx => by
                  rcases List.mem_append.1 hx with h | h
                  · exact HS.out.2.2.2 x h
                  · simp at h; rw [h]; exact hdo, by
                  rw [rsCells_app]
                  simpa [rsCells] using ho, hB'⟩
                clear ho hg hB' hi0 hz0 hz1 hz2 hL hbt
                go_wp2_with fail
                go_roundw
                case rel => exact HN.out
                case measure => simp [intOf]; omega
              · have h4b : ((m : Int) % 4 == 0) = false := by simpa using h4
                have R19 := (HRC.out.deny false).cls ((m : Int) / 9 % 9)
                go_upto_region 19 with (fail)
                generalize ({ RC with deny := false, cls := (m : Int) / 9 % 9 } : Ru) = RD at *
                generalize (wd.setCell ⟨b, 42, none⟩ (.bool false)).setCell ⟨b, 43, none⟩ (.int .i64 ((m : Int) / 9 % 9)) = w19 at *
                have hL := row_ru R19.ok (range_block R19.blk)
                have hbt := built_rus R19.ok
                have ho19 := own_kept HS.out.1 R19.bel
                have hdo := R19.ok
                have HR19 := Lib.hid (And.intro ho19 R19.bel)
                have hs19 := R19.bel.size
                obtain ⟨hi0, hz0, hz1, hz2⟩ := HI.out
                clear R19 HRC ho19 c42 c43 f42 f43
                go_wp2_with (first | (at_builtin; refine wpList_append_own _ rfl (.tmp 73) (.tmp 75) 22 rfl w.heap.size 43 i0 _ 44 104 Try.underlying22 hi0 hz0 hz1 hz2 rfl (by decide) (.slice va k vc) k (rsCells l) rfl (HR19.out.1.alloc _) ⟨w19.heap.size, 0, none⟩ 1 1 RD.cs rfl (by rw [hdo.len]) (fun j u hj => by rw [Addr.add_lit]; exact range_block (alloc_block_new w19 (.cells RD.arr 43)) j u hj) RD.one (by unfold maxLen; omega) (by omega) (by simp; omega) ?_))
                intro v' w' ho hg _
                obtain ⟨ua, uc, rfl⟩ := own_shape ho
                have hB' : Below w.heap.size w w' := (HS.out.2.1.trans (HR19.out.2.mono HS.out.2.1.size)).trans (((Below.only ((Below.refl w19.heap.size w19).alloc (Nat.le_refl _) (.cells RD.arr 43)) (fun q => (Value.slice va k vc).ownBlock = some q)).grown hg (fun q hq _ => hq)).below (B := w.heap.size) (by omega) (fun q hq e => by have := own_ge HS.out.1 q e; omega))
                have HN : Hid (SoRel w (.int .i64 ((m * 31 + 17 * k + 7) % 100003 : Nat)) (.int .i64 (k + 1 : Nat)) (.slice ua (k + 1) uc) w') := ⟨(m * 31 + 17 * k + 7) % 100003, k + 1, l ++ [RD], rfl, Nat.mod_lt _ (by decide), rfl, by omega, by rw [List.length_append, HS.out.2.2.1]; rfl, fun x hx => by
                  rcases List.mem_append.1 hx with h | h
                  · exact HS.out.2.2.2 x h
                  · simp at h; rw [h]; exact hdo, by
                  rw [rsCells_app]
                  simpa [rsCells] using ho, hB'⟩
                clear ho hg hB' hi0 hz0 hz1 hz2 hL hbt
                go_wp2_with fail
                go_roundw
                case rel => exact HN.out
                case measure => simp [intOf]; omega
            · go_upto_region 15 with (fail)
              obtain ⟨wd, rfl⟩ : ∃ wo : World, wo = wb := ⟨_, rfl⟩
              obtain ⟨RC, rfl⟩ : ∃ ro : Ru, ro = RB := ⟨_, rfl⟩
              have HRC := Lib.hid HRB.out
              clear HRB c40 c41 hfz
              obtain ⟨⟨_, _, c42, c43⟩, hfz⟩ := HRC.out.cells
              have f42 := hfz 42
              have f43 := hfz 43
              clear hfz
              by_cases h4 : (m : Int) % 4 = 0
              · have R19 := ((HRC.out.deny true).cls ((m : Int) / 9 % 9)).cls 0
                go_upto_region 19 with (fail)
                generalize ({ RC with deny := true, cls := 0 } : Ru) = RD at *
                generalize ((wd.setCell ⟨b, 42, none⟩ (.bool true)).setCell ⟨b, 43, none⟩ (.int .i64 ((m : Int) / 9 % 9))).setCell ⟨b, 43, none⟩ (.int .i64 0) = w19 at *
                have hL := row_ru R19.ok (range_block R19.blk)
                have hbt := built_rus R19.ok
                have ho19 := own_kept HS.out.1 R19.bel
                have hdo := R19.ok
                have HR19 := Lib.hid (And.intro ho19 R19.bel)
                have hs19 := R19.bel.size
                obtain ⟨hi0, hz0, hz1, hz2⟩ := HI.out
                clear R19 HRC ho19 c42 c43 f42 f43
                go_wp2_with (first | (at_builtin; refine wpList_append_own _ rfl (.tmp 73) (.tmp 75) 22 rfl w.heap.size 43 i0 _ 44 104 Try.underlying22 hi0 hz0 hz1 hz2 rfl (by decide) (.slice va k vc) k (rsCells l) rfl (HR19.out.1.alloc _) ⟨w19.heap.size, 0, none⟩ 1 1 RD.cs rfl (by rw [hdo.len]) (fun j u hj => by rw [Addr.add_lit]; exact range_block (alloc_block_new w19 (.cells RD.arr 43)) j u hj) RD.one (by unfold maxLen; omega) (by omega) (by simp; omega) ?_))
                intro v' w' ho hg _
                obtain ⟨ua, uc, rfl⟩ := own_shape ho
                have hB' : Below w.heap.size w w' := (HS.out.2.1.trans (HR19.out.2.mono HS.out.2.1.size)).trans (((Below.only ((Below.refl w19.heap.size w19).alloc (Nat.le_refl _) (.cells RD.arr 43)) (fun q => (Value.slice va k vc).ownBlock = some q)).grown hg (fun q hq _ => hq)).below (B := w.heap.size) (by omega) (fun q hq e => by have := own_ge HS.out.1 q e; omega))
                have HN : Hid (SoRel w (.int .i64 ((m * 31 + 17 * k + 7) % 100003 : Nat)) (.int .i64 (k + 1 : Nat)) (.slice ua (k + 1) uc) w') := ⟨(m * 31 + 17 * k + 7) % 100003, k + 1, l ++ [RD], rfl, Nat.mod_lt _ (by decide), rfl, by omega, by rw [List.length_append, HS.out.2.2.1]; rfl, fun x hx => by
                  rcases List.mem_append.1 hx with h | h
                  · exact HS.out.2.2.2 x h
                  · simp at h; rw [h]; exact hdo, by
                  rw [rsCells_app]
                  simpa [rsCells] using ho, hB'⟩
                clear ho hg hB' hi0 hz0 hz1 hz2 hL hbt
                go_wp2_with fail
                go_roundw
                case rel => exact HN.out
                case measure => simp [intOf]; omega
              · have h4b : ((m : Int) % 4 == 0) = false := by simpa using h4
                have R19 := (HRC.out.deny false).cls ((m : Int) / 9 % 9)
                go_upto_region 19 with (fail)
                generalize ({ RC with deny := false, cls := (m : Int) / 9 % 9 } : Ru) = RD at *
                generalize (wd.setCell ⟨b, 42, none⟩ (.bool false)).setCell ⟨b, 43, none⟩ (.int .i64 ((m : Int) / 9 % 9)) = w19 at *
                have hL := row_ru R19.ok (range_block R19.blk)
                have hbt := built_rus R19.ok
                have ho19 := own_kept HS.out.1 R19.bel
                have hdo := R19.ok
                have HR19 := Lib.hid (And.intro ho19 R19.bel)
                have hs19 := R19.bel.size
                obtain ⟨hi0, hz0, hz1, hz2⟩ := HI.out
                clear R19 HRC ho19 c42 c43 f42 f43
                go_wp2_with (first | (at_builtin; refine wpList_append_own _ rfl (.tmp 73) (.tmp 75) 22 rfl w.heap.size 43 i0 _ 44 104 Try.underlying22 hi0 hz0 hz1 hz2 rfl (by decide) (.slice va k vc) k (rsCells l) rfl (HR19.out.1.alloc _) ⟨w19.heap.size, 0, none⟩ 1 1 RD.cs rfl (by rw [hdo.len]) (fun j u hj => by rw [Addr.add_lit]; exact range_block (alloc_block_new w19 (.cells RD.arr 43)) j u hj) RD.one (by unfold maxLen; omega) (by omega) (by simp; omega) ?_))
                intro v' w' ho hg _
                obtain ⟨ua, uc, rfl⟩ := own_shape ho
                have hB' : Below w.heap.size w w' := (HS.out.2.1.trans (HR19.out.2.mono HS.out.2.1.size)).trans (((Below.only ((Below.refl w19.heap.size w19).alloc (Nat.le_refl _) (.cells RD.arr 43)) (fun q => (Value.slice va k vc).ownBlock = some q)).grown hg (fun q hq _ => hq)).below (B := w.heap.size) (by omega) (fun q hq e => by have := own_ge HS.out.1 q e; omega))
                have HN : Hid (SoRel w (.int .i64 ((m * 31 + 17 * k + 7) % 100003 : Nat)) (.int .i64 (k + 1 : Nat)) (.slice ua (k + 1) uc) w') := ⟨(m * 31 + 17 * k + 7) % 100003, k + 1, l ++ [RD], rfl, Nat.mod_lt _ (by decide), rfl, by omega, by rw [List.length_append, HS.out.2.2.1]; rfl, fun x hx => by
                  rcases List.mem_append.1 hx with h | h
                  · exact HS.out.2.2.2 x h
                  · simp at h; rw [h]; exact hdo, by
                  rw [rsCells_app]
                  simpa [rsCells] using ho, hB'⟩
                clear ho hg hB' hi0 hz0 hz1 hz2 hL hbt
                go_wp2_with fail
                go_roundw
                case rel => exact HN.out
                case measure => simp [intOf]; omega
    · have HF := Lib.hid (And.intro hrow (And.intro hB (And.intro hl hok)))
      clear hrow hB hl hok
      have hki : ¬ (k : Int) < (m : Int) % 7 := by omega
      go_wp2_with fail
      go_ret
      exact ⟨_, l, rfl, by rw [HF.out.2.2.1]; exact hk, HF.out.2.2.2, by show World.ownsRow _ _ _ _ _ _ _; rw [HF.out.2.2.1]; exact HF.out.1, HF.out.2.1⟩
end Go.Proofs.Ytcbkcalemfminaa
