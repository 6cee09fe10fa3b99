/- The document's addresses, prefixes, rules, keys, made of the program's: walked. -/
import Derived.Test.YtcbkcalemfminaaRr8
import Derived.Test.YtcbkcalemfminaaRr9
namespace Go.Proofs.Ytcbkcalemfminaa
open Go.RowKit
theorem build_rr (parts : Array (Nat × Value)) : Instr.build 88 parts = buildRow 88 parts := by unfold buildRow; rfl
theorem build_rk (parts : Array (Nat × Value)) : Instr.build 79 parts = buildRow 79 parts := by unfold buildRow; rfl
theorem store_rp (p v : Value) : Instr.storeAt 86 p v = storeRow 86 p v := by unfold storeRow; rfl
theorem store_rr (p v : Value) : Instr.storeAt 88 p v = storeRow 88 p v := by unfold storeRow; rfl
theorem store_rk (p v : Value) : Instr.storeAt 79 p v = storeRow 79 p v := by unfold storeRow; rfl
theorem load_rk (p : Value) : Instr.loadAt 79 p = loadRow 79 p := by unfold loadRow; rfl
attribute [local go_sem ↓] load_ad load_pf load_ru load_ky load_bs load_ra load_rp load_rr load_rk build_ra build_rp build_rr build_rk store_rp store_rr store_rk

theorem built_ra2 {a : Ad} (ha : a.Ok) (w : World) : (buildRow 77 #[(0, .bool a.six), (1, .agg (u8s a.bs).toArray)]).run Try.prog w = .ok (.agg a.arr) w := by
  unfold buildRow
  refine run_build w _ _ _ ?_
  obtain ⟨s, bs⟩ := a
  obtain ⟨x0, x1, x2, x3, x4, x5, x6, x7, x8, x9, x10, x11, x12, x13, x14, x15, rfl⟩ := len16 ha.1
  kernel_rfl
theorem built_rr {r : Ru} (hr : r.Ok) (w : World) : (buildRow 88 #[(0, .int .i64 r.ver), (1, .int .i64 r.proto), (2, .agg r.src.arr), (3, .agg r.dst.arr), (4, .int .u16 r.slo), (5, .int .u16 r.shi), (6, .int .u16 r.dlo), (7, .int .u16 r.dhi), (8, .bool r.deny), (9, .int .i64 r.cls)]).run Try.prog w = .ok (.agg r.arr) w := by
  unfold buildRow
  refine run_build w _ _ _ ?_
  obtain ⟨v, pr, ⟨⟨s, bs⟩, l⟩, ⟨⟨s', bs'⟩, l'⟩, x, y, z, d, e, f⟩ := r
  obtain ⟨x0, x1, x2, x3, x4, x5, x6, x7, x8, x9, x10, x11, x12, x13, x14, x15, rfl⟩ := len16 hr.s.1
  obtain ⟨y0, y1, y2, y3, y4, y5, y6, y7, y8, y9, y10, y11, y12, y13, y14, y15, rfl⟩ := len16 hr.d.1
  kernel_rfl
theorem built_rk {k : Ky} (hk : k.Ok) (w : World) : (buildRow 79 #[(0, .agg k.src.arr), (1, .agg k.dst.arr), (2, .int .u8 k.proto), (3, .int .u16 k.sp), (4, .int .u16 k.dp)]).run Try.prog w = .ok (.agg k.arr) w := by
  unfold buildRow
  refine run_build w _ _ _ ?_
  obtain ⟨⟨s, bs⟩, ⟨s', bs'⟩, x, y, z⟩ := k
  obtain ⟨x0, x1, x2, x3, x4, x5, x6, x7, x8, x9, x10, x11, x12, x13, x14, x15, rfl⟩ := len16 hk.s.1
  obtain ⟨y0, y1, y2, y3, y4, y5, y6, y7, y8, y9, y10, y11, y12, y13, y14, y15, rfl⟩ := len16 hk.d.1
  kernel_rfl
theorem Ad.arr_size4 {a : Ad} (h : a.Ok) : a.arr.size = 17 := by
  unfold Ad.arr
  rw [List.size_toArray, h.len]
theorem Ad.all (a : Ad) : a.arr.all (·.oneCell') = true := by
  unfold Ad.arr
  rw [List.all_toArray, List.all_eq_true]
  exact a.one
theorem var_ra {w : World} {b o : Nat} {c : Ad} (hc : c.Ok) (h : w.rangeAt b o c.cs) : (loadVar 77 ⟨b, o, none⟩).run Try.prog w = .ok (.agg c.arr) w :=
  run_loadVar_mid w b o _ c.cs _ h Try.underlying77 rfl (by rw [hc.len]; kernel_rfl)

theorem Ad.zero_arr4 : #[.bool false, .int .u8 0, .int .u8 0, .int .u8 0, .int .u8 0, .int .u8 0, .int .u8 0, .int .u8 0, .int .u8 0, .int .u8 0, .int .u8 0, .int .u8 0, .int .u8 0, .int .u8 0, .int .u8 0, .int .u8 0, .int .u8 0] = Ad.zero.arr := rfl
theorem store_rp_at {p : Pf} (hp : p.a.Ok) {w : World} {g : Nat} (h : w.heap[g]? = some (.cells Pf.zero.arr 86 (0, 0))) : (storeRow 86 (.pointer (some ⟨g, 0, none⟩)) (.agg p.arr)).run Try.prog w = .ok () (w.setRow g p.arr) := by
  unfold storeRow
  have h := run_storeVar_row (P := Try.prog) w g 86 86 Pf.zero.arr p.arr h (by rw [Pf.arr_size hp]; kernel_rfl) (by rw [Pf.arr_size hp]; rfl) p.all
  simp only [Instr.storeAt, Instr.sureAddr, Sem.run_bind, Sem.run_pure, Result.andThen_ok, h]
theorem store_rr_at {r : Ru} (hr : r.Ok) {w : World} {g : Nat} (h : w.heap[g]? = some (.cells Ru.zero.arr 88 (0, 0))) : (storeRow 88 (.pointer (some ⟨g, 0, none⟩)) (.agg r.arr)).run Try.prog w = .ok () (w.setRow g r.arr) := by
  unfold storeRow
  have h := run_storeVar_row (P := Try.prog) w g 88 88 Ru.zero.arr r.arr h (by rw [Ru.arr_size hr]; kernel_rfl) (by rw [Ru.arr_size hr]; rfl) r.all
  simp only [Instr.storeAt, Instr.sureAddr, Sem.run_bind, Sem.run_pure, Result.andThen_ok, h]

set_option maxRecDepth 100000 in
theorem daddr_is {a : Ad} (ha : a.Ok) (w : World) :
    Calls Try.prog 65 #[.agg a.arr] w fun e w' => e = .returned (.agg a.arr) ∧ Below w.heap.size w w' := by
  go_enter Try.func65, Try.ntmps65
  go_upto_region 1 with (fail)
  rw [Ad.zero_arr4]
  obtain ⟨hB, g0, g1⟩ := two_boxes w a.arr Ad.zero.arr 25 77
  generalize (w.alloc (.cells a.arr 25)).alloc (.cells Ad.zero.arr 77) = w1 at *
  generalize hb : w.heap.size = b at *
  have l0 := Ad.cSix (range_block g0)
  have l1 := row_bs ha.1 (Ad.rB (range_block g0))
  rw [Nat.zero_add] at l1
  have l2 := built_ra2 ha
  have HB := Lib.hid (And.intro hb (And.intro hB (And.intro g1 g0)))
  have HS := Lib.hid (And.intro (Ad.arr_size4 ha) a.all)
  clear hb hB g0 g1
  go_wp2_with (first | (refine wpList_store_blk rfl 77 (.tmp 2) (.tmp 7) rfl (b + 1) a.arr rfl rfl 77 Ad.zero.arr HB.out.2.2.1 (by rw [HS.out.1]; kernel_rfl) (by rw [HS.out.1]; rfl) HS.out.2 ?_))
  intro w4 hS
  have hBf := HB.out.2.1.trans (hS.only.below (B := b) (by have := lt_of_obj HB.out.2.2.2; omega) (fun k hk e => by omega))
  have hv := var_ra ha (range_block hS.blk)
  go_wp2_with fail
  refine bodyPost_ret (v := .agg a.arr) (results_cell rfl rfl hv) rfl ⟨rfl, by rw [HB.out.1]; exact hBf⟩

set_option maxRecDepth 100000 in
theorem dprefix_is {p : Pf} (hp : p.a.Ok) (w : World) :
    Calls Try.prog 67 #[.agg p.arr] w fun e w' => e = .returned (.agg p.arr) ∧ Below w.heap.size w w' := by
  go_enter Try.func67, Try.ntmps67
  go_upto_region 1 with (fail)
  rw [Pf.zero_arr]
  obtain ⟨hB, g0, g1⟩ := two_boxes w p.arr Pf.zero.arr 39 86
  generalize (w.alloc (.cells p.arr 39)).alloc (.cells Pf.zero.arr 86) = w1 at *
  have hl0 := lt_of_obj g0
  have hl1 := lt_of_obj g1
  generalize hb : w.heap.size = b at *
  have HB := Lib.hid (And.intro hb (And.intro hB (And.intro g1 g0)))
  have hr : w1.rangeAt b 0 p.cs := range_block g0
  have L1 : ∀ w' : World, w'.rangeAt b 0 p.cs → (loadRow 25 (.pointer (some ⟨b, 0, none⟩))).run Try.prog w' = .ok (.agg p.a.arr) w' := fun w' h => row_ad hp (Pf.rA h)
  have L2 : ∀ w' : World, w'.rangeAt b 0 p.cs → w'.cell? ⟨b, 17, none⟩ = some (.int .i64 p.len) := fun w' h => by
    have := Pf.cLen hp h
    rw [Nat.zero_add] at this
    exact this
  have L3 := built_rp hp p.len
  have L4 : ∀ w' : World, w'.heap[b + 1]? = some (.cells Pf.zero.arr 86 (0, 0)) → (storeRow 86 (.pointer (some ⟨b + 1, 0, none⟩)) (.agg p.arr)).run Try.prog w' = .ok () (w'.setRow (b + 1) p.arr) := fun w' h => store_rp_at hp h
  have HB1 := Lib.hid (Below.refl w1.heap.size w1)
  clear hb hB g0
  go_region_held3 (fun w' => w'.rangeAt b 0 p.cs) (first | assumption | exact hr | exact hr3 | exact range_setRow hr3 (by omega))
    (first
      | (go_at_call 65; refine Calls.mono (daddr_is hp _) ?_; rintro e w3 ⟨rfl, hB3⟩
         have hB3' : Below w1.heap.size w1 w3 := (Below.refl w1.heap.size w1).drew.trans hB3
         have HB3 := Lib.hid hB3'
         have hr3 : w3.rangeAt b 0 p.cs := range_below hr hl0 hB3'
         have g3 := (hB3'.block _ hl1).trans g1; clear hB3 hB3'))
  all_goals
    have hS := stored_setRow (cs := p.arr) g3
    have hsz := HB3.out.size
    have hBf := HB.out.2.1.trans ((HB3.out.mono (by omega)).trans (hS.only.below (B := b) (by omega) (fun k hk e => by omega)))
    have hv := var_rp hp (range_block hS.blk)
    clear L1 L2 L3 L4
    generalize w3.setRow (b + 1) p.arr = w4 at *
    go_wp2_with fail
    refine bodyPost_ret (v := .agg p.arr) (results_cell rfl rfl hv) rfl ⟨rfl, by rw [HB.out.1]; exact hBf⟩

theorem var_rr {w : World} {b o : Nat} {c : Ru} (hc : c.Ok) (h : w.rangeAt b o c.cs) : (loadVar 88 ⟨b, o, none⟩).run Try.prog w = .ok (.agg c.arr) w :=
  run_loadVar_mid w b o _ c.cs _ h Try.underlying88 rfl (by rw [hc.len]; kernel_rfl)
set_option maxRecDepth 100000 in
set_option maxHeartbeats 1000000 in
theorem drule_is {r : Ru} (hr : r.Ok) (w : World) :
    Calls Try.prog 40 #[.agg r.arr] w fun e w' => e = .returned (.agg r.arr) ∧ Below w.heap.size w w' := by
  go_enter Try.func40, Try.ntmps40
  go_upto_region 1 with (fail)
  rw [Ru.zero_arr]
  obtain ⟨hB, g0, g1⟩ := two_boxes w r.arr Ru.zero.arr 43 88
  generalize (w.alloc (.cells r.arr 43)).alloc (.cells Ru.zero.arr 88) = w1 at *
  have hl0 := lt_of_obj g0
  have hl1 := lt_of_obj g1
  generalize hb : w.heap.size = b at *
  have HB := Lib.hid (And.intro hb (And.intro hB (And.intro g1 g0)))
  have hr1 : w1.rangeAt b 0 r.cs := range_block g0
  have hrd : w1.drew.rangeAt b 0 r.cs := hr1
  have L1 : ∀ w' : World, w'.rangeAt b 0 r.cs → (loadRow 39 (.pointer (some ⟨b, 2, none⟩))).run Try.prog w' = .ok (.agg r.src.arr) w' := fun w' h => row_pf hr.s (Ru.rSrc h)
  have L2 : ∀ w' : World, w'.rangeAt b 0 r.cs → (loadRow 39 (.pointer (some ⟨b, 20, none⟩))).run Try.prog w' = .ok (.agg r.dst.arr) w' := fun w' h => row_pf hr.d (Ru.rDst hr h)
  have c0 : ∀ w' : World, w'.rangeAt b 0 r.cs → w'.cell? ⟨b, 0, none⟩ = some (.int .i64 r.ver) := fun w' h => Ru.c0 h
  have c1 : ∀ w' : World, w'.rangeAt b 0 r.cs → w'.cell? ⟨b, 1, none⟩ = some (.int .i64 r.proto) := fun w' h => Ru.c1 h
  have c2 : ∀ w' : World, w'.rangeAt b 0 r.cs → w'.cell? ⟨b, 38, none⟩ = some (.int .u16 r.slo) := fun w' h => Ru.c38 hr h
  have c3 : ∀ w' : World, w'.rangeAt b 0 r.cs → w'.cell? ⟨b, 39, none⟩ = some (.int .u16 r.shi) := fun w' h => Ru.c39 hr h
  have c4 : ∀ w' : World, w'.rangeAt b 0 r.cs → w'.cell? ⟨b, 40, none⟩ = some (.int .u16 r.dlo) := fun w' h => Ru.c40 hr h
  have c5 : ∀ w' : World, w'.rangeAt b 0 r.cs → w'.cell? ⟨b, 41, none⟩ = some (.int .u16 r.dhi) := fun w' h => Ru.c41 hr h
  have c6 : ∀ w' : World, w'.rangeAt b 0 r.cs → w'.cell? ⟨b, 42, none⟩ = some (.bool r.deny) := fun w' h => Ru.c42 hr h
  have c7 : ∀ w' : World, w'.rangeAt b 0 r.cs → w'.cell? ⟨b, 43, none⟩ = some (.int .i64 r.cls) := fun w' h => Ru.c43 hr h
  have L3 := built_rr hr
  have L4 : ∀ w' : World, w'.heap[b + 1]? = some (.cells Ru.zero.arr 88 (0, 0)) → (storeRow 88 (.pointer (some ⟨b + 1, 0, none⟩)) (.agg r.arr)).run Try.prog w' = .ok () (w'.setRow (b + 1) r.arr) := fun w' h => store_rr_at hr h
  have HB1 := Lib.hid (Below.refl w1.heap.size w1)
  clear hb hB g0
  go_region_held3 (fun w' => w'.rangeAt b 0 r.cs) (with_reducible first | exact hrd | exact hr1 | exact hr3 | exact hr4 | exact range_setRow hr4 (by omega))
    (first
      | (go_at_call 67; (first | with_reducible refine Calls.mono (dprefix_is hr.s w1.drew) ?_ | with_reducible refine Calls.mono (dprefix_is hr.d w1.drew) ?_); rintro e w3 ⟨rfl, hB3⟩
         have hB3' : Below w1.heap.size w1 w3 := (Below.refl w1.heap.size w1).drew.trans hB3
         have HB3 := Lib.hid hB3'
         have hr3 : w3.rangeAt b 0 r.cs := range_below hr1 hl0 hB3'
         clear hB3 hB3')
      | (go_at_call 67; (first | with_reducible refine Calls.mono (dprefix_is hr.s w3) ?_ | with_reducible refine Calls.mono (dprefix_is hr.d w3) ?_); rintro e w4 ⟨rfl, hB4⟩
         have hB4' := HB3.out.trans (hB4.mono HB3.out.size)
         have HB4 := Lib.hid hB4'
         have hr4 : w4.rangeAt b 0 r.cs := range_below hr1 hl0 hB4'
         have g4 := (hB4'.block _ hl1).trans g1
         clear hB4 hB4'))
  all_goals
    have hS := stored_setRow (cs := r.arr) g4
    have hsz := HB4.out.size
    have hBf := HB.out.2.1.trans ((HB4.out.mono (by omega)).trans (hS.only.below (B := b) (by omega) (fun k hk e => by omega)))
    have hv := var_rr hr (range_block hS.blk)
    clear L1 L2 L3 L4 c0 c1 c2 c3 c4 c5 c6 c7
    generalize w4.setRow (b + 1) r.arr = w5 at *
    go_wp2_with fail
    refine bodyPost_ret (v := .agg r.arr) (results_cell rfl rfl hv) rfl ⟨rfl, by rw [HB.out.1]; exact hBf⟩
end Go.Proofs.Ytcbkcalemfminaa
