/- The document's keys and rows of rules, made of the program's; its New, Which, Class: walked. -/
import Derived.Test.YtcbkcalemfminaaRs1
import Derived.Test.YtcbkcalemfminaaRul
namespace Go.Proofs.Ytcbkcalemfminaa
open Go.RowKit
theorem rows_rr (n : Nat) (parts : Array (Nat × Value)) : Instr.buildSlice 74 n parts = rowRow 74 n parts := by unfold rowRow; rfl
attribute [local go_sem ↓] load_ad load_pf load_ru load_ky load_bs load_ra load_rp load_rr load_rk build_ra build_rp build_rr build_rk store_rp store_rr store_rk rows_rr

theorem Ky.size {k : Ky} (h : k.Ok) : k.arr.size = 37 := by
  unfold Ky.arr
  rw [List.size_toArray, h.len]
theorem Ky.one (k : Ky) : ∀ v ∈ k.cs, v.oneCell' = true := by
  intro v hv
  unfold Ky.cs at hv
  rcases List.mem_append.1 hv with h | h
  · rcases List.mem_append.1 h with h | h
    · exact k.src.one v h
    · exact k.dst.one v h
  · simp at h; rcases h with rfl | rfl | rfl <;> rfl
theorem Ky.all (k : Ky) : k.arr.all (·.oneCell') = true := by
  unfold Ky.arr
  rw [List.all_toArray, List.all_eq_true]
  exact k.one
theorem store_rk_at {k : Ky} (hk : k.Ok) {w : World} {g : Nat} (h : w.heap[g]? = some (.cells Ky.zero.arr 79 (0, 0))) : (storeRow 79 (.pointer (some ⟨g, 0, none⟩)) (.agg k.arr)).run Try.prog w = .ok () (w.setRow g k.arr) := by
  unfold storeRow
  have h := run_storeVar_row (P := Try.prog) w g 79 79 Ky.zero.arr k.arr h (by rw [Ky.size hk]; kernel_rfl) (by rw [Ky.size hk]; rfl) k.all
  simp only [Instr.storeAt, Instr.sureAddr, Sem.run_bind, Sem.run_pure, Result.andThen_ok, h]
theorem var_rk {w : World} {b o : Nat} {c : Ky} (hc : c.Ok) (h : w.rangeAt b o c.cs) : (loadVar 79 ⟨b, o, none⟩).run Try.prog w = .ok (.agg c.arr) w :=
  run_loadVar_mid w b o _ c.cs _ h Try.underlying79 rfl (by rw [hc.len]; kernel_rfl)
theorem row_rk {w : World} {b o : Nat} {c : Ky} (hc : c.Ok) (h : w.rangeAt b o c.cs) : (loadRow 79 (.pointer (some ⟨b, o, none⟩))).run Try.prog w = .ok (.agg c.arr) w := by
  unfold loadRow
  exact run_loadAt_mid w b o _ c.cs _ h Try.underlying79 rfl (by rw [hc.len]; kernel_rfl)

set_option maxRecDepth 100000 in
set_option maxHeartbeats 1000000 in
theorem dkey_is {k : Ky} (hk : k.Ok) (w : World) :
    Calls Try.prog 35 #[.agg k.arr] w fun e w' => e = .returned (.agg k.arr) ∧ Below w.heap.size w w' := by
  go_enter Try.func35, Try.ntmps35
  go_upto_region 1 with (fail)
  rw [Ky.zero_arr]
  obtain ⟨hB, g0, g1⟩ := two_boxes w k.arr Ky.zero.arr 28 79
  generalize (w.alloc (.cells k.arr 28)).alloc (.cells Ky.zero.arr 79) = w1 at *
  have hl0 := lt_of_obj g0
  have hl1 := lt_of_obj g1
  generalize hb : w.heap.size = b at *
  have HB := Lib.hid (And.intro hb (And.intro hB (And.intro g1 g0)))
  have hr1 : w1.rangeAt b 0 k.cs := range_block g0
  have hrd : w1.drew.rangeAt b 0 k.cs := hr1
  have L1 : ∀ w' : World, w'.rangeAt b 0 k.cs → (loadRow 25 (.pointer (some ⟨b, 0, none⟩))).run Try.prog w' = .ok (.agg k.src.arr) w' := fun w' h => row_ad hk.s (Ky.rSrc h)
  have L2 : ∀ w' : World, w'.rangeAt b 0 k.cs → (loadRow 25 (.pointer (some ⟨b, 17, none⟩))).run Try.prog w' = .ok (.agg k.dst.arr) w' := fun w' h => row_ad hk.d (Ky.rDst hk h)
  have c0 : ∀ w' : World, w'.rangeAt b 0 k.cs → w'.cell? ⟨b, 34, none⟩ = some (.int .u8 k.proto) := fun w' h => Ky.c34 hk h
  have c1 : ∀ w' : World, w'.rangeAt b 0 k.cs → w'.cell? ⟨b, 35, none⟩ = some (.int .u16 k.sp) := fun w' h => Ky.c35 hk h
  have c2 : ∀ w' : World, w'.rangeAt b 0 k.cs → w'.cell? ⟨b, 36, none⟩ = some (.int .u16 k.dp) := fun w' h => Ky.c36 hk h
  have L3 := built_rk hk
  have L4 : ∀ w' : World, w'.heap[b + 1]? = some (.cells Ky.zero.arr 79 (0, 0)) → (storeRow 79 (.pointer (some ⟨b + 1, 0, none⟩)) (.agg k.arr)).run Try.prog w' = .ok () (w'.setRow (b + 1) k.arr) := fun w' h => store_rk_at hk h
  have HB1 := Lib.hid (Below.refl w1.heap.size w1)
  clear hb hB g0
  go_region_held3 (fun w' => w'.rangeAt b 0 k.cs) (with_reducible first | exact hrd | exact hr1 | exact hr3 | exact hr4 | exact range_setRow hr4 (by omega))
    (first
      | (go_at_call 65; (first | with_reducible refine Calls.mono (daddr_is hk.s w1.drew) ?_ | with_reducible refine Calls.mono (daddr_is hk.d w1.drew) ?_); rintro e w3 ⟨rfl, hB3⟩
         have hB3' : Below w1.heap.size w1 w3 := (Below.refl w1.heap.size w1).drew.trans hB3
         have HB3 := Lib.hid hB3'
         have hr3 : w3.rangeAt b 0 k.cs := range_below hr1 hl0 hB3'
         clear hB3 hB3')
      | (go_at_call 65; (first | with_reducible refine Calls.mono (daddr_is hk.s w3) ?_ | with_reducible refine Calls.mono (daddr_is hk.d w3) ?_); rintro e w4 ⟨rfl, hB4⟩
         have hB4' := HB3.out.trans (hB4.mono HB3.out.size)
         have HB4 := Lib.hid hB4'
         have hr4 : w4.rangeAt b 0 k.cs := range_below hr1 hl0 hB4'
         have g4 := (hB4'.block _ hl1).trans g1
         clear hB4 hB4'))
  all_goals
    have hS := stored_setRow (cs := k.arr) g4
    have hsz := HB4.out.size
    have hBf := HB.out.2.1.trans ((HB4.out.mono (by omega)).trans (hS.only.below (B := b) (by omega) (fun k hk e => by omega)))
    have hv := var_rk hk (range_block hS.blk)
    clear L1 L2 L3 L4 c0 c1 c2
    generalize w4.setRow (b + 1) k.arr = w5 at *
    go_wp2_with fail
    refine bodyPost_ret (v := .agg k.arr) (results_cell rfl rfl hv) rfl ⟨rfl, by rw [HB.out.1]; exact hBf⟩

/-! ### A row of the document's rules -/
abbrev OwnRR (w : World) (B : Nat) (v : Value) (l : List Ru) : Prop := w.ownsRow B 88 44 v l.length (rsCells l)
theorem OwnRR.rules {w : World} {B : Nat} {v : Value} {l : List Ru} (h : OwnRR w B v l) (hok : ∀ r ∈ l, r.Ok) : Rules w v l := by
  rcases h.2 with ⟨hv, h0⟩ | ⟨g, cap, cur, hv, hg, hh, hnc, hcm, hcs, hx⟩
  · exact ⟨none, 0, by rw [hv, h0], fun _ => h0, fun h => by omega⟩
  · refine ⟨_, cap, hv, (fun e => absurd e (by simp)), fun h0 => ⟨g, 0, rfl, lt_of_obj hh, ?_⟩⟩
    refine rs_part hok ?_
    intro j v hj
    have hjl := (List.getElem?_eq_some_iff.1 hj).1
    rw [rsCells_len hok] at hjl
    rw [Nat.zero_add, cell_of_block hh, ← hj, ← hx, List.getElem?_take_of_lt hjl]
    simp
theorem info_rr : (Try.prog.info? 88).map (fun i => (i.zero, i.size, i.bytes)) = some (some (.agg #[.int .i64 0, .int .i64 0, .bool false, .int .u8 0, .int .u8 0, .int .u8 0, .int .u8 0, .int .u8 0, .int .u8 0, .int .u8 0, .int .u8 0, .int .u8 0, .int .u8 0, .int .u8 0, .int .u8 0, .int .u8 0, .int .u8 0, .int .u8 0, .int .u8 0, .int .i64 0, .bool false, .int .u8 0, .int .u8 0, .int .u8 0, .int .u8 0, .int .u8 0, .int .u8 0, .int .u8 0, .int .u8 0, .int .u8 0, .int .u8 0, .int .u8 0, .int .u8 0, .int .u8 0, .int .u8 0, .int .u8 0, .int .u8 0, .int .i64 0, .int .u16 0, .int .u16 0, .int .u16 0, .int .u16 0, .bool false, .int .i64 0]), 44, 104) := by kernel_rfl
theorem built_rrs {r : Ru} (hr : r.Ok) (w : World) : (rowRow 74 1 #[(0, .agg r.arr)]).run Try.prog w = .ok (.slice (some ⟨w.heap.size, 0, none⟩) 1 1) (w.alloc (.cells r.arr 88)) := by
  obtain ⟨i, hi, hz0, hz1, hz2⟩ := info_parts info_rr
  refine run_rowRow w _ _ 1 _ _ i _ Try.underlying74 hi hz0 (by rw [hz1]; decide) (by rw [hz1]; decide) ?_
  rw [hz1]
  obtain ⟨v, pr, ⟨⟨s, bs⟩, l⟩, ⟨⟨s', bs'⟩, l'⟩, a, b, c, d, e, f⟩ := r
  obtain ⟨x0, x1, x2, x3, x4, x5, x6, x7, x8, x9, x10, x11, x12, x13, x14, x15, rfl⟩ := len16 hr.s.1
  obtain ⟨y0, y1, y2, y3, y4, y5, y6, y7, y8, y9, y10, y11, y12, y13, y14, y15, rfl⟩ := len16 hr.d.1
  kernel_rfl
theorem take_snoc {l : List Ru} {k : Nat} {r : Ru} (h : l[k]? = some r) : l.take (k + 1) = l.take k ++ [r] := by
  rw [List.take_add_one, h]
  rfl
/-- Ahead of each rule. -/
def DocRel (W : World) (l : List Ru) (i v : Value) (w : World) : Prop :=
  ∃ k : Nat, i = .int .i64 k ∧ k ≤ l.length ∧ w.ownsRow W.heap.size 88 44 v k (rsCells (l.take k)) ∧ Below W.heap.size W w
set_option maxRecDepth 100000 in
theorem drules_is {v : Value} {l : List Ru} {w : World} (hl : Rules w v l) (hlen : l.length ≤ 1000000) :
    Calls Try.prog 33 #[v] w fun e w' => ∃ v', e = .returned v' ∧ OwnRR w' w.heap.size v' l ∧ Below w.heap.size w w' := by
  obtain ⟨i0, hi0, hz0, hz1, hz2⟩ := info_parts info_rr
  obtain ⟨la, lc, rfl, _⟩ := id hl
  have HL := Lib.hid hl
  have HI := Lib.hid (And.intro hi0 (And.intro hz0 (And.intro hz1 hz2)))
  clear hl hi0 hz0 hz1 hz2
  go_enter Try.func33, Try.ntmps33
  go_wp2_with fail
  go_loopw [4, 3] (DocRel w l) (fun i _ _ => l.length - (intOf i).toNat)
  case atStart => exact ⟨0, rfl, Nat.zero_le _, World.ownsRow_nil _ _ _ _, Below.refl _ _⟩
  case round =>
    obtain ⟨k, rfl, hk, hrow, hB⟩ := hrel
    by_cases hlt : k < l.length
    · obtain ⟨r, hrk⟩ : ∃ r, l[k]? = some r := ⟨_, List.getElem?_eq_getElem hlt⟩
      have hlw := HL.out.below hB
      obtain ⟨_, _, e1, _, hrw⟩ := hlw
      injection e1 with e1 _ e2
      subst e1
      subst e2
      obtain ⟨rb, ro, rfl, hrb, hAr⟩ := hrw (by omega)
      obtain ⟨hrok, hrr⟩ := hAr k r hrk
      have lR := row_ru hrok hrr
      have hki : (k : Int) < (l.length : Int) := by omega
      obtain ⟨va, vc, hve⟩ := own_shape hrow
      subst hve
      have HS := Lib.hid (And.intro hrow (And.intro hB hrk))
      have hts := take_snoc hrk
      have HT := Lib.hid hts
      clear hrow hB hrk hAr hrr hts
      go_wp2_with fail
      refine (drule_is hrok _).mono ?_
      rintro e w2 ⟨rfl, hB2⟩
      have ho2 := own_kept HS.out.1 hB2
      have hB2' := HS.out.2.1.trans (hB2.mono HS.out.2.1.size)
      have HS2 := Lib.hid (And.intro ho2 hB2')
      have hBs := hB2'.size
      have hbt := built_rrs hrok
      obtain ⟨hi0, hz0, hz1, hz2⟩ := HI.out
      clear ho2 hB2 hB2' lR
      go_wp2_with (first | (at_builtin; refine wpList_append_own _ rfl (.tmp 11) (.tmp 17) 74 rfl w.heap.size 88 i0 _ 44 104 Try.underlying74 hi0 hz0 hz1 hz2 rfl (by decide) (.slice va k vc) k (rsCells (l.take k)) rfl (HS2.out.1.alloc _) ⟨w2.heap.size, 0, none⟩ 1 1 r.cs rfl (by rw [hrok.len]) (fun j u hj => by rw [Addr.add_lit]; exact range_block (alloc_block_new w2 (.cells r.arr 88)) j u hj) r.one (by unfold maxLen; omega) (by omega) (by simp; omega) ?_))
      intro v' w' ho hg _
      obtain ⟨ua, uc, rfl⟩ := own_shape ho
      have hB' : Below w.heap.size w w' := HS2.out.2.trans (((Below.only ((Below.refl w2.heap.size w2).alloc (Nat.le_refl _) (.cells r.arr 88)) (fun q => (Value.slice va k vc).ownBlock = some q)).grown hg (fun q hq _ => hq)).below (B := w.heap.size) hBs (fun q hq e => by have := own_ge HS2.out.1 q e; omega))
      have HN : Hid (DocRel w l (.int .i64 (k + 1 : Nat)) (.slice ua (k + 1) uc) w') := ⟨k + 1, rfl, hlt, by
        rw [HT.out]
        rw [rsCells_app]
        simpa [rsCells] using ho, hB'⟩
      clear ho hg hB' hi0 hz0 hz1 hz2 hbt
      go_wp2_with fail
      go_roundw
      case rel => exact HN.out
      case measure => simp [intOf]; omega
    · obtain rfl : k = l.length := by omega
      have HF := Lib.hid (And.intro hrow hB)
      clear hrow hB
      go_wp2_with fail
      go_ret
      exact ⟨_, rfl, by have := HF.out.1; rw [List.take_length] at this; exact this, HF.out.2⟩
end Go.Proofs.Ytcbkcalemfminaa
