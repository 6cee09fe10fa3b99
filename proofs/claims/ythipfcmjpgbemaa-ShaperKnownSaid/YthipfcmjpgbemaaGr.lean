/- Bytes of one's own, bytes that are written over; items that are compared: walked. -/
import Derived.Test.YthipfcmjpgbemaaGk
import Derived.Test.YthipfcmjpgbemaaGm
import Derived.Test.YthipfcmjpgbemaaGp
namespace Go.Proofs.Ythipfcmjpgbemaa
open Go.RowKit

set_option maxRecDepth 100000 in
/-- Bytes appended onto nothing. -/
theorem wpList_append_h8 {w : World} {ops : Array Oper} {rest : List Oper} {op : Oper} {a : Act} {Q : Exit → Act → World → Prop} (hgd : op.guard = none) (s x : Operand)
    (ho : op.op = .call { callee := .builtin .append, args := #[s, x], argTypes := #[32, 32] })
    {v : Value} {zs : List Nat} (hs : a.eval s = .slice none 0 0) (hx : a.eval x = v) (hR : Holds8 w v zs) (hlen : zs.length ≤ 1000000)
    (h : ∀ v' w', Own8 w' w.heap.size v' zs → Below w.heap.size w w' → wpList Try.prog ops Q rest (a.put op.dst v') w') :
    wpList Try.prog ops Q (op :: rest) a w := by
  obtain ⟨i0, hi, hz0, hz1, hz2⟩ := info_parts info_u8c
  obtain ⟨ao, cap, hv, hc, hn, hlt, hx8⟩ := hR
  subst hv
  cases ao with
  | none =>
    have hz : zs = [] := List.eq_nil_of_length_eq_zero (by have := hn rfl; omega)
    subst hz
    obtain rfl : cap = 0 := hn rfl
    exact wpList_append_own_none hgd s x _ ho w.heap.size 5 i0 1 Try.underlying32 hi _ 0 [] hs (World.ownsRow_nil w _ _ _) hx (h _ _ (World.ownsRow_nil w _ _ _) (Below.refl _ _))
  | some ad =>
    refine wpList_append_own w hgd s x _ ho w.heap.size 5 i0 (.int .u8 0) 1 1 Try.underlying32 hi hz0 hz1 hz2 rfl (by decide) (.slice none 0 0) 0 [] hs (World.ownsRow_nil w _ _ _) ad zs.length cap (u8s zs) hx (by simp) (fun j u hu => ?_) u8s_one (by unfold maxLen; omega) (by omega) (Nat.le_refl _) (fun v' w' ho' hg' _ => h v' w' (by simpa using ho') ?_)
    · have hj : j < zs.length := by
        have := (List.getElem?_eq_some_iff.1 hu).1
        simpa using this
      obtain ⟨b, o, hb, hcc⟩ := hx8 (by omega)
      injection hb with hb
      subst hb
      rw [u8s_get zs j hj] at hu
      rw [Addr.add_lit, hcc j hj, hu]
    · exact ⟨hg'.os, hg'.tape, hg'.output, hg'.size, fun k hk => hg'.block k hk (by simp [Value.ownBlock])⟩
theorem own_is {w : World} {v : Value} {zs : List Nat} (h : Holds8 w v zs) (hn : zs.length ≤ 1000000) :
    Calls Try.prog 39 #[v] w fun e w' => ∃ v', e = .returned v' ∧ Own8 w' w.heap.size v' zs ∧ Below w.heap.size w w' := by
  have HH := Lib.hid h
  obtain ⟨a, c, rfl, -⟩ := h
  go_enter Try.func39, Try.ntmps39
  go_wp2_with (first | (at_builtin; refine wpList_append_h8 rfl (.tmp 4) (.tmp 5) rfl rfl rfl HH.out hn ?_))
  intro v' w' h1 h2
  obtain ⟨va, vc, rfl⟩ := own_shape h1
  have H1 := Lib.hid (And.intro h1 h2)
  clear h1 h2
  go_wp2_with fail
  go_ret
  exact ⟨_, rfl, H1.out.1, H1.out.2⟩

/-- Bytes that are written over, up to one. -/
def WoRel (wi : World) (y : Value) (n : Nat) (j : Value) (wr : World) : Prop :=
  ∃ m : Nat, j = .int .i64 m ∧ m ≤ n ∧ Only (fun b => y.ownBlock = some b) wi wr ∧ ∀ b, y.ownBlock = some b → ∃ c, wr.heap[b]? = some (.cells c 5 (0, 0)) ∧ ∀ i, i < n → ∃ z : Int, c[i]? = some (.int .u8 z)
theorem worel_start {wi : World} {base : Nat} {y : Value} {zs : List Nat} (h : Own8 wi base y zs) : WoRel wi y zs.length (.int .i64 (0 : Nat)) wi := by
  refine ⟨0, rfl, Nat.zero_le _, Only.refl _ _, fun b hb => ?_⟩
  rcases h.2 with ⟨hv, h0⟩ | ⟨g, cap, cur, hv, hg, hh, hnc, hcm, hcs, hx⟩
  · rw [hv] at hb; cases hb
  · rw [hv] at hb
    injection hb with hb
    subst hb
    refine ⟨cur, hh, fun i hi => ⟨(zs.getD i 0 : Nat), ?_⟩⟩
    have e := u8s_get zs i hi
    rw [← hx] at e
    simpa [hi] using e
theorem worel_step {wi wr : World} {g n m : Nat} {cap : Nat} (h : WoRel wi (.slice (some ⟨g, 0, none⟩) n cap) n (.int .i64 (m : Nat)) wr) (hm : m < n) (z : Int) :
    WoRel wi (.slice (some ⟨g, 0, none⟩) n cap) n (.int .i64 (m + 1 : Nat)) (wr.setCell ⟨g, m, none⟩ (.int .u8 z)) := by
  obtain ⟨m', _, _, hO, hb⟩ := h
  refine ⟨m + 1, rfl, hm, hO.setCell (p := ⟨g, m, none⟩) (fun _ => rfl) _, fun b hbb => ?_⟩
  obtain rfl : g = b := by injection hbb
  obtain ⟨c, hc, hcc⟩ := hb g rfl
  refine ⟨_, setCell_block hc _ _, fun i hi => ?_⟩
  by_cases e : m = i
  · subst e
    obtain ⟨z', hz'⟩ := hcc m hi
    exact ⟨z, by rw [Array.getElem?_setIfInBounds_self_of_lt (Array.getElem?_eq_some_iff.1 hz').1]⟩
  · rw [Array.getElem?_setIfInBounds_ne e]
    exact hcc i hi

theorem spoil_is {w : World} {base : Nat} {y : Value} {zs : List Nat} (h : Own8 w base y zs) :
    Calls Try.prog 38 #[y] w fun e w' => (∃ v, e = .returned v) ∧ Only (fun b => y.ownBlock = some b) w w' ∧ ∀ b, y.ownBlock = some b → ∃ c, w'.heap[b]? = some (.cells c 5 (0, 0)) := by
  have HH := Lib.hid h
  obtain ⟨a, c, rfl⟩ := own_shape h
  have hn : zs.length ≤ 9223372036854775807 := by
    rcases h.2 with ⟨_, h0⟩ | ⟨g', cap', cur', _, _, _, hn', hm', _⟩
    · omega
    · unfold maxLen at hm'; omega
  clear h
  go_enter Try.func38, Try.ntmps38
  go_wp2_with fail
  go_loopw [2] (WoRel w (.slice a zs.length c) zs.length) (fun j _ => zs.length - (intOf j).toNat)
  case atStart => exact worel_start HH.out
  case round =>
    obtain ⟨m, rfl, hm, hO, hb⟩ := hrel
    by_cases hlt : m < zs.length
    · obtain ⟨g, cap, eyv, -⟩ := own_slice HH.out (by omega)
      injection eyv with eya _ _
      subst eya
      obtain ⟨cy, hcy, hz⟩ := hb g rfl
      obtain ⟨z, hzm⟩ := hz m hlt
      have y0 : wr.cell? ⟨g, m, none⟩ = some (.int .u8 z) := (cell_of_block hcy m).trans hzm
      have y1 : wr.frozen? ⟨g, m, none⟩ = false := free_of_block hcy m
      have HREL : Hid (WoRel w (.slice (some ⟨g, 0, none⟩) zs.length c) zs.length (.int .i64 (m : Nat)) wr) := ⟨m, rfl, hm, hO, hb⟩
      have hmi : (m : Int) < (zs.length : Int) := by omega
      clear hO hb hcy hz hzm
      go_wp2_with fail
      go_roundw
      case rel => exact worel_step HREL.out hlt _
      case measure => simp [intOf]; omega
    · have hmi : ¬ (m : Int) < (zs.length : Int) := by omega
      have HX := Lib.hid (And.intro hO hb)
      clear hO hb
      go_wp2_with fail
      go_returns
      exact ⟨⟨_, rfl⟩, HX.out.1, fun b hbb => let ⟨c, hc, _⟩ := HX.out.2 b hbb; ⟨c, hc⟩⟩

theorem Only.trans' {S : Nat → Prop} {a b c : World} (h : Only S a b) (k : Only S b c) : Only S a c := h.trans k

/-- Records in new memory, each with an item in it, of which those from kr on are as they came, and the bytes of those from kd on. -/
structure MidR (W w : World) (ty : TypeId) (sz off : Nat) (F : Nat → Prop) (v : Value) (ys0 : List Value) (its : List It) (kr kd : Nat) : Prop where
  only : Only (fun k => F k ∨ v.ownBlock = some k) W w
  row : ∃ ys, w.ownsRow 0 ty sz v its.length ys ∧ ∀ j, kr * sz ≤ j → ys[j]? = ys0[j]?
  ds : ∀ (i : Nat) (x : It) (y : Value), kd ≤ i → its[i]? = some x → ys0[i * sz + off + 2]? = some y → Own8 w 0 y x.data
  ft : ∀ b, F b → ∃ c, w.heap[b]? = some (.cells c 5 (0, 0))
  vt : ∀ b, v.ownBlock = some b → ¬ F b
/-- What stays of them. -/
structure StR (F : Nat → Prop) (ys0 : List Value) (its : List It) (sz off : Nat) : Prop where
  f : ∀ (i : Nat) (x : It) (y : Value), its[i]? = some x → ys0[i * sz + off + 2]? = some y → ∀ b, y.ownBlock = some b → F b
  dj : ∀ (i j : Nat) (yi yj : Value), i < j → j < its.length → ys0[i * sz + off + 2]? = some yi → ys0[j * sz + off + 2]? = some yj → ∀ k, yi.ownBlock = some k → ¬ yj.ownBlock = some k
section
variable {W w w' : World} {ty : TypeId} {sz off : Nat} {F : Nat → Prop} {v : Value} {ys0 : List Value} {its : List It} {kr kd k : Nat}
theorem MidR.below (h : MidR W w ty sz off F v ys0 its kr kd) (hB : Below w.heap.size w w') : MidR W w' ty sz off F v ys0 its kr kd := by
  have hO := Below.only hB (fun _ => False)
  obtain ⟨ys, hr, hx⟩ := h.row
  exact ⟨h.only.trans' (Below.only hB _), ⟨ys, own_only hr hO (fun _ _ h => h), hx⟩, fun i x y hi hx hy => own_only (h.ds i x y hi hx hy) hO (fun _ _ h => h), fun b hb => let ⟨c, hc⟩ := h.ft b hb; ⟨c, hO.keep hc (fun h => h)⟩, h.vt⟩
/-- Where they lie. -/
theorem MidR.blk (h : MidR W w ty sz off F v ys0 its kr kd) (h0 : 0 < its.length) : ∃ g cap cur, v = .slice (some ⟨g, 0, none⟩) its.length cap ∧ w.heap[g]? = some (.cells cur ty (0, 0)) ∧ its.length ≤ cap ∧ cap ≤ maxLen ∧ cur.size = cap * sz ∧ ∀ j, kr * sz ≤ j → j < its.length * sz → w.cell? ⟨g, j, none⟩ = ys0[j]? := by
  obtain ⟨ys, hr, hx⟩ := h.row
  rcases hr.2 with ⟨_, h1⟩ | ⟨g, cap, cur, hv, hg, hh, hnc, hcm, hcs, he⟩
  · omega
  · refine ⟨g, cap, cur, hv, hh, hnc, hcm, hcs, fun j h1 h2 => ?_⟩
    rw [cell_of_block hh, ← hx j h1, ← he, List.getElem?_take_of_lt h2]
    simp
/-- One item's bytes were written over. -/
theorem MidR.spoil {x : It} {y : Value} (h : MidR W w ty sz off F v ys0 its k k) (hs : StR F ys0 its sz off) (hx : its[k]? = some x) (hy : ys0[k * sz + off + 2]? = some y)
    (hO : Only (fun b => y.ownBlock = some b) w w') (hT : ∀ b, y.ownBlock = some b → ∃ c, w'.heap[b]? = some (.cells c 5 (0, 0))) : MidR W w' ty sz off F v ys0 its k (k + 1) := by
  obtain ⟨ys, hr, hxx⟩ := h.row
  have hF := hs.f k x y hx hy
  refine ⟨h.only.trans' (hO.mono fun b _ e => .inl (hF b e)), ⟨ys, own_only hr hO (fun b hb e => h.vt b hb (hF b e)), hxx⟩, fun i x' y' hi hx' hy' => ?_, fun b hb => ?_, h.vt⟩
  · have hil := (List.getElem?_eq_some_iff.1 hx').1
    exact own_only (h.ds i x' y' (by omega) hx' hy') hO (fun b hb e => hs.dj k i y y' (by omega) hil hy hy' b e hb)
  · by_cases e : y.ownBlock = some b
    · exact hT b e
    · obtain ⟨c, hc⟩ := h.ft b hb
      exact ⟨c, hO.keep hc e⟩
/-- One record was written over. -/
theorem MidR.store {g cap : Nat} {cur : Array Value} {vs : List Value} (h : MidR W w ty sz off F v ys0 its k (k + 1)) (hs : StR F ys0 its sz off) (hk : k < its.length) (hv : v = .slice (some ⟨g, 0, none⟩) its.length cap) (hh : w.heap[g]? = some (.cells cur ty (0, 0))) (hl : vs.length = sz)
    (hS : Stored w w' g (cur.toList.take (k * sz) ++ vs ++ cur.toList.drop (k * sz + vs.length)).toArray ty) : MidR W w' ty sz off F v ys0 its (k + 1) (k + 1) := by
  obtain ⟨ys, hr, hxx⟩ := h.row
  have hv0 : v.ownBlock = some g := by rw [hv]; rfl
  have hyl := hr.1
  rcases hr.2 with ⟨hv2, h1⟩ | ⟨g2, cap2, cur2, hv2, hg2, hh2, hnc, hcm, hcs, he⟩
  · omega
  · rw [hv] at hv2
    injection hv2 with e1 e2 e3
    injection e1 with e1
    injection e1 with e1
    subst e1 e3
    rw [hh] at hh2
    injection hh2 with hh2
    injection hh2 with hh2 _ _
    subst hh2
    have hcl : cur.toList.length = cap * sz := by rw [Array.length_toList, hcs]
    have hkc : k * sz + sz ≤ cap * sz := by
      have := Nat.mul_le_mul_right sz (show k + 1 ≤ cap by omega)
      rw [Nat.add_mul, Nat.one_mul] at this
      exact this
    have hksz : (k + 1) * sz = k * sz + sz := by rw [Nat.add_mul, Nat.one_mul]
    have hlen : (cur.toList.take (k * sz) ++ vs ++ cur.toList.drop (k * sz + vs.length)).length = cap * sz := by
      simp only [List.length_append, List.length_take, List.length_drop, hcl, hl]
      omega
    have hnl : its.length * sz ≤ cap * sz := Nat.mul_le_mul_right sz hnc
    refine ⟨h.only.trans' (hS.only.mono fun b _ e => by subst e; exact .inr hv0), ⟨(cur.toList.take (k * sz) ++ vs ++ cur.toList.drop (k * sz + vs.length)).take (its.length * sz), ⟨?_, .inr ⟨g, cap, _, hv, Nat.zero_le _, hS.blk, hnc, hcm, ?_, rfl⟩⟩, fun j hj => ?_⟩, fun i x y hi hx hy => own_only (h.ds i x y hi hx hy) hS.only (fun b hb e => ?_), fun b hb => ?_, h.vt⟩
    · rw [List.length_take, hlen]
      omega
    · rw [List.size_toArray, hlen]
    · rw [← hxx j (by omega), ← he]
      by_cases hj2 : j < its.length * sz
      · rw [List.getElem?_take_of_lt hj2, List.getElem?_take_of_lt hj2, List.getElem?_append_right (by simp only [List.length_append, List.length_take, hcl, hl]; omega), List.getElem?_drop]
        simp only [List.length_append, List.length_take, hcl, hl]
        congr 1
        omega
      · rw [List.getElem?_eq_none (by rw [List.length_take]; omega), List.getElem?_eq_none (by rw [List.length_take]; omega)]
    · subst e
      exact h.vt b hv0 (hs.f i x y hx hy b hb)
    · obtain ⟨c, hc⟩ := h.ft b hb
      exact ⟨c, hS.only.keep hc (fun e => by subst e; exact h.vt b hv0 hb)⟩
end

/-- Items that are the reference's. -/
def SiRel (W : World) (n : Nat) (iv : Value) (w : World) : Prop := ∃ i : Nat, iv = .int .i64 i ∧ i ≤ n ∧ Below W.heap.size W w
set_option maxRecDepth 100000 in
set_option maxHeartbeats 1000000 in
theorem sameItems_is {w : World} {base B : Nat} {F : Nat → Prop} {v rv : Value} {xs : List Value} {L : List It} (h : NewI base w F v xs L) (hr : RL w B rv L) (hn : L.length ≤ 100000) :
    Calls Try.prog 37 #[v, rv] w fun e w' => e = .returned (.bool true) ∧ Below w.heap.size w w' := by
  obtain ⟨a, c, rfl⟩ := own_shape h.row
  obtain ⟨ra, rc, rfl⟩ := hr.shape
  have HH := Lib.hid (And.intro h hr)
  clear h hr
  go_enter Try.func37, Try.ntmps37
  go_wp2_with fail
  go_loopw [5] (SiRel w L.length) (fun i _ => L.length - (intOf i).toNat)
  case atStart => exact ⟨0, rfl, Nat.zero_le _, Below.refl _ _⟩
  case round =>
    obtain ⟨i, rfl, hi, hB⟩ := hrel
    by_cases hil : i < L.length
    · obtain ⟨x, hx⟩ : ∃ x, L[i]? = some x := ⟨_, List.getElem?_eq_getElem hil⟩
      obtain ⟨g, cap, eg, hgl, -, hcell⟩ := row_cell HH.out.1.row (by omega)
      injection eg with eg1 eg2 eg3
      subst eg1 eg3
      clear eg2
      obtain ⟨y, hy⟩ := HH.out.1.cs i x hx
      obtain ⟨gr, og, rfl, q0, q1, q2⟩ := HH.out.2.at hx
      have hgr := (HH.out.2.ge gr rfl).2
      have e0 := (hcell (i * 3) (by omega)).trans hy.c0
      have e1 := (hcell (i * 3 + 1) (by omega)).trans hy.c1
      have e2 := (hcell (i * 3 + 2) (by omega)).trans hy.c2
      obtain ⟨ya, yc, ey⟩ := own_shape hy.d
      subst ey
      have hii : (i : Int) < (L.length : Int) := by omega
      have hcz : ∀ (b j : Nat) (u : Value), b < w.heap.size → w.cell? ⟨b, j, none⟩ = some u → ∀ z : Wld (fun x => Below wr.heap.size wr x), z.w.cell? ⟨b, j, none⟩ = some u := fun b j u h1 h2 z => (z.ok.cell (p := ⟨b, j, none⟩) (Nat.lt_of_lt_of_le h1 hB.size)).trans ((hB.cell (p := ⟨b, j, none⟩) h1).trans h2)
      have k0 := hcz _ _ _ hgl e0
      have k1 := hcz _ _ _ hgl e1
      have k2 := hcz _ _ _ hgl e2
      have m0 := hcz _ _ _ hgr q0
      have m1 := hcz _ _ _ hgr q1
      have m2 := hcz _ _ _ hgr q2
      have HI1 : Hid (∀ z : Wld (fun x => Below wr.heap.size wr x), Calls Try.prog 13 #[.agg #[.int .u64 x.no, .int .i64 x.size, .slice ya x.data.length yc]] z.w fun e w' => e = .returned (.agg #[.int .u64 x.no, .int .i64 x.size, .string (str8 x.data)]) ∧ Below z.w.heap.size z.w w') := Lib.hid fun z => ditem_is _ _ _ _ _ ((hy.d.holds.below hB).below z.ok)
      have HBW := Lib.hid hB
      haveI hne : Nonempty (Wld (fun x => Below wr.heap.size wr x)) := ⟨⟨wr, Below.refl _ _⟩⟩
      clear hcz hcell e0 e1 e2 q0 q1 q2 hy hB hx
      generalize x.no = ono at *
      generalize x.size = osz at *
      generalize x.data.length = odl at *
      generalize str8 x.data = ost at *
      go_wp2_with fail
      refine region_class (fun x => Below wr.heap.size wr x) (by kernel_rfl) (by kernel_rfl) (Below.refl _ _).drew ?_
      repeat (go_big_quiet_step ((rename_i z; go_at_call 13; with_reducible refine Calls.mono (HI1.out z) ?_; intro e w' h; obtain ⟨he, hb⟩ := h; exact ⟨he, ⟨w', z.ok.trans (hb.mono z.ok.size)⟩, rfl⟩)))
      refine wpQuiet_nil ?_
      intro w8 hB8
      have HR : Hid (SiRel w L.length (.int .i64 (i + 1 : Nat)) w8) := Lib.hid ⟨i + 1, rfl, hil, HBW.out.trans (hB8.mono HBW.out.size)⟩
      clear k0 k1 k2 m0 m1 m2 HI1 hB8 HBW hne
      go_wp2_with fail
      go_roundw
      case rel => first | exact HR.out | ((repeat apply Exists.intro); exact ⟨HR.out, rfl⟩)
      case measure => simp [intOf]; omega
    · have hii : ¬ (i : Int) < (L.length : Int) := by omega
      have HB := Lib.hid hB
      clear hB
      go_wp2_with fail
      go_ret
      exact ⟨rfl, HB.out⟩
end Go.Proofs.Ythipfcmjpgbemaa

/- What went out is compared, and written over: walked. -/
namespace Go.Proofs.Ythipfcmjpgbemaa
open Go.RowKit

theorem roCells_get : ∀ {L : List OutR} {i : Nat} {o : OutR}, L[i]? = some o → (roCells L)[i * 5]? = some (.int .u64 o.at') ∧ (roCells L)[i * 5 + 1]? = some (.int .i64 (o.cls : Nat)) ∧ (roCells L)[i * 5 + 2]? = some (.int .u64 o.x.no) ∧ (roCells L)[i * 5 + 3]? = some (.int .i64 o.x.size) ∧ (roCells L)[i * 5 + 4]? = some (.string (str8 o.x.data))
  | [], i, o, h => by simp at h
  | x :: L, 0, o, h => by
    simp at h
    subst h
    exact ⟨rfl, rfl, rfl, rfl, rfl⟩
  | x :: L, i + 1, o, h => by
    obtain ⟨h0, h1, h2, h3, h4⟩ := roCells_get (L := L) (i := i) (o := o) (by simpa using h)
    have e : ∀ j, (roCells (x :: L))[(i + 1) * 5 + j]? = (roCells L)[i * 5 + j]? := fun j => by
      rw [show (i + 1) * 5 + j = i * 5 + j + 5 by omega]
      rfl
    exact ⟨(e 0).trans h0, (e 1).trans h1, (e 2).trans h2, (e 3).trans h3, (e 4).trans h4⟩
theorem NewO.st {base : Nat} {w : World} {F : Nat → Prop} {v : Value} {xs : List Value} {L : List OutR} (h : NewO base w F v xs L) : StR F xs (L.map OutR.x) 5 2 := by
  refine ⟨fun i x y hx hy b hb => ?_, fun i j yi yj hij hj hi hjj => h.dj i j yi yj hij (by rw [List.length_map] at hj; exact hj) hi hjj⟩
  rw [List.getElem?_map] at hx
  obtain ⟨o, ho, rfl⟩ := Option.map_eq_some_iff.1 hx
  obtain ⟨-, -, y', hy'⟩ := h.cs i o ho
  have e := hy'.c2
  rw [show i * 5 + 2 + 2 = i * 5 + 2 + 2 from rfl, hy] at e
  injection e with e
  subst e
  exact hy'.f b hb
theorem NewO.mid {base : Nat} {w : World} {F : Nat → Prop} {v : Value} {xs : List Value} {L : List OutR} (h : NewO base w F v xs L) : MidR w w 40 5 2 F v xs (L.map OutR.x) 0 0 := by
  refine ⟨Only.refl _ _, ⟨xs, by rw [List.length_map]; exact own_lower h.row (Nat.zero_le _), fun _ _ => rfl⟩, fun i x y _ hx hy => ?_, h.ft, fun b hb hf => ?_⟩
  · rw [List.getElem?_map] at hx
    obtain ⟨o, ho, rfl⟩ := Option.map_eq_some_iff.1 hx
    obtain ⟨-, -, y', hy'⟩ := h.cs i o ho
    have e := hy'.c2
    rw [hy] at e
    injection e with e
    subst e
    exact hy'.d
  · obtain ⟨c, hc⟩ := row_type h.row b hb
    obtain ⟨d, hd⟩ := h.ft b hf
    rw [hc] at hd
    injection hd with hd
    injection hd with _ e _
    exact absurd e (by decide)

def SoRel (W : World) (F : Nat → Prop) (v : Value) (xs : List Value) (L : List OutR) (iv : Value) (w : World) : Prop := ∃ i : Nat, iv = .int .i64 i ∧ i ≤ L.length ∧ MidR W w 40 5 2 F v xs (L.map OutR.x) i i
set_option maxRecDepth 100000 in
set_option maxHeartbeats 1000000 in
theorem sameOuts_is {w : World} {base B : Nat} {F : Nat → Prop} {v rv : Value} {xs : List Value} {L : List OutR} (h : NewO base w F v xs L) (hr : w.ownsRow B 142 5 rv L.length (roCells L)) (hn : L.length ≤ 100000) :
    Calls Try.prog 41 #[v, rv] w fun e w' => e = .returned (.bool true) ∧ Only (fun k => F k ∨ v.ownBlock = some k) w w' := by
  obtain ⟨a, c, rfl⟩ := own_shape h.row
  obtain ⟨ra, rc, rfl⟩ := own_shape hr
  have HH := Lib.hid (And.intro h (And.intro hr (And.intro h.st h.mid)))
  clear h hr
  go_enter Try.func41, Try.ntmps41
  go_wp2_with fail
  go_loopw [5] (SoRel w F (.slice a L.length c) xs L) (fun i _ => L.length - (intOf i).toNat)
  case atStart => exact ⟨0, rfl, Nat.zero_le _, HH.out.2.2.2⟩
  case round =>
    obtain ⟨i, rfl, hi, hM⟩ := hrel
    have hmap : (L.map OutR.x).length = L.length := List.length_map ..
    by_cases hil : i < L.length
    · obtain ⟨o, ho⟩ : ∃ o, L[i]? = some o := ⟨_, List.getElem?_eq_getElem hil⟩
      obtain ⟨g, cap, cur, ev, hgb, hnc, hcm, hcs, hcell⟩ := hM.blk (by omega)
      rw [hmap] at ev
      injection ev with ev1 ev2 ev3
      subst ev1 ev3
      clear ev2
      obtain ⟨f0, f1, y, hy⟩ := HH.out.1.cs i o ho
      have e0 := (hcell (i * 5) (Nat.le_refl _) (by omega)).trans f0
      have e1 := (hcell (i * 5 + 1) (by omega) (by omega)).trans f1
      have e2 := (hcell (i * 5 + 2) (by omega) (by omega)).trans hy.c0
      have e3 := (hcell (i * 5 + 3) (by omega) (by omega)).trans hy.c1
      have e4 := (hcell (i * 5 + 4) (by omega) (by omega)).trans hy.c2
      have hox : (L.map OutR.x)[i]? = some o.x := by rw [List.getElem?_map, ho]; rfl
      have hds := hM.ds i o.x y (Nat.le_refl _) hox hy.c2
      obtain ⟨ya, yc, ey⟩ := own_shape hy.d
      subst ey
      have hrw := own_only HH.out.2.1 hM.only (fun k hk e => by
        obtain ⟨d, hd⟩ := row_type HH.out.2.1 k hk
        rcases e with e | e
        · obtain ⟨d2, hd2⟩ := HH.out.1.ft k e
          rw [hd] at hd2
          injection hd2 with hd2
          injection hd2 with _ e _
          exact absurd e (by decide)
        · obtain ⟨d2, hd2⟩ := row_type HH.out.1.row k e
          rw [hd] at hd2
          injection hd2 with hd2
          injection hd2 with _ e _
          exact absurd e (by decide))
      obtain ⟨gr, crr, er, -, hgr⟩ := own_slice hrw (by omega)
      injection er with er1 er2 er3
      subst er1 er3
      clear er2
      obtain ⟨c0, c1, c2, c3, c4⟩ := roCells_get ho
      have q0 := hrw.cells (g := gr) rfl _ _ c0
      have q1 := hrw.cells (g := gr) rfl _ _ c1
      have q2 := hrw.cells (g := gr) rfl _ _ c2
      have q3 := hrw.cells (g := gr) rfl _ _ c3
      have q4 := hrw.cells (g := gr) rfl _ _ c4
      rw [Addr.add_lit, Nat.zero_add] at q0 q1 q2 q3 q4
      have hii : (i : Int) < (L.length : Int) := by omega
      have hgl := lt_of_obj hgb
      have hcz : ∀ (b j : Nat) (u : Value), b < wr.heap.size → wr.cell? ⟨b, j, none⟩ = some u → ∀ z : Wld (fun x => Below wr.heap.size wr x), z.w.cell? ⟨b, j, none⟩ = some u := fun b j u h1 h2 z => (z.ok.cell (p := ⟨b, j, none⟩) h1).trans h2
      have k0 := hcz _ _ _ hgl e0
      have k1 := hcz _ _ _ hgl e1
      have k2 := hcz _ _ _ hgl e2
      have k3 := hcz _ _ _ hgl e3
      have k4 := hcz _ _ _ hgl e4
      have m0 := hcz _ _ _ hgr q0
      have m1 := hcz _ _ _ hgr q1
      have m2 := hcz _ _ _ hgr q2
      have m3 := hcz _ _ _ hgr q3
      have m4 := hcz _ _ _ hgr q4
      have HI1 : Hid (∀ z : Wld (fun x => Below wr.heap.size wr x), Calls Try.prog 13 #[.agg #[.int .u64 o.x.no, .int .i64 o.x.size, .slice ya o.x.data.length yc]] z.w fun e w' => e = .returned (.agg #[.int .u64 o.x.no, .int .i64 o.x.size, .string (str8 o.x.data)]) ∧ Below z.w.heap.size z.w w') := Lib.hid fun z => ditem_is _ _ _ _ _ (hds.holds.below z.ok)
      have HX := Lib.hid (And.intro hM (And.intro hox hy.c2))
      haveI hne : Nonempty (Wld (fun x => Below wr.heap.size wr x)) := ⟨⟨wr, Below.refl _ _⟩⟩
      obtain ⟨wo, rfl⟩ : ∃ wo : World, wo = wr := ⟨_, rfl⟩
      clear hcz hcell e0 e1 e2 e3 e4 q0 q1 q2 q3 q4 hy hM ho hds hrw c0 c1 c2 c3 c4 f0 f1 hgb hnc hcm hcs hox
      generalize str8 o.x.data = ost at *
      go_wp2_with fail
      refine region_class (fun x => Below wo.heap.size wo x) (by kernel_rfl) (by kernel_rfl) (Below.refl _ _).drew ?_
      repeat (go_big_quiet_step ((rename_i z; go_at_call 13; with_reducible refine Calls.mono (HI1.out z) ?_; intro e w' h; obtain ⟨he, hb⟩ := h; exact ⟨he, ⟨w', z.ok.trans (hb.mono z.ok.size)⟩, rfl⟩)))
      refine wpQuiet_nil ?_
      intro w8 hB8
      have hM8 := HX.out.1.below hB8
      have e4 : w8.cell? ⟨g, i * 5 + 4, none⟩ = some (.slice ya o.x.data.length yc) := k4 ⟨w8, hB8⟩
      have hgl8 := Nat.lt_of_lt_of_le hgl hB8.size
      have hds := hM8.ds i o.x _ (Nat.le_refl _) HX.out.2.1 HX.out.2.2
      have hyg : ∀ b, (Value.slice ya o.x.data.length yc).ownBlock = some b → ¬ b = g := fun b hb e => by
        subst e
        exact hM8.vt b rfl (HH.out.2.2.1.f i o.x _ HX.out.2.1 HX.out.2.2 b hb)
      have hxd : o.x.data.length ≤ 9223372036854775807 := by
        rcases hds.2 with ⟨_, h0⟩ | ⟨g', cap', cur', _, _, _, hn', hm', _⟩
        · omega
        · unfold maxLen at hm'; omega
      have HX8 := Lib.hid (And.intro hM8 (And.intro hds hyg))
      have HE4 := Lib.hid e4
      clear k0 k1 k2 k3 k4 m0 m1 m2 m3 m4 HI1 hB8 hne hM8 hds hyg e4
      go_wp2_with fail
      go_loopw [6] (WoRel w8 (.slice ya o.x.data.length yc) o.x.data.length) (fun j _ => o.x.data.length - (intOf j).toNat)
      case atStart => exact worel_start HX8.out.2.1
      case round =>
        obtain ⟨m, rfl, hm, hO, hb⟩ := hrel
        have e4 : wr.cell? ⟨g, i * 5 + 4, none⟩ = some (.slice ya o.x.data.length yc) := (World.cell?_of_block (w := w8) (hO.block g hgl8 (fun e => HX8.out.2.2 g e rfl))).trans HE4.out
        by_cases hmn : m < o.x.data.length
        · obtain ⟨yg, ycap, eyv, _⟩ := own_slice HX8.out.2.1 (by omega)
          injection eyv with eya _ _
          subst eya
          obtain ⟨cy, hcy, hz⟩ := hb yg rfl
          obtain ⟨z, hzm⟩ := hz m hmn
          have y0 : wr.cell? ⟨yg, m, none⟩ = some (.int .u8 z) := (cell_of_block hcy m).trans hzm
          have y1 : wr.frozen? ⟨yg, m, none⟩ = false := free_of_block hcy m
          have HREL : Hid (WoRel w8 (.slice (some ⟨yg, 0, none⟩) o.x.data.length yc) o.x.data.length (.int .i64 (m : Nat)) wr) := ⟨m, rfl, hm, hO, hb⟩
          have hmi : (m : Int) < (o.x.data.length : Int) := by omega
          clear hO hb hcy hz hzm
          go_wp2_with fail
          go_roundw
          case rel => exact worel_step HREL.out hmn _
          case measure => simp [intOf]; omega
        · have hmi : ¬ (m : Int) < (o.x.data.length : Int) := by omega
          have hM9 := HX8.out.1.spoil HH.out.2.2.1 HX.out.2.1 HX.out.2.2 hO (fun b hbb => let ⟨c, hc, _⟩ := hb b hbb; ⟨c, hc⟩)
          obtain ⟨g9, cap9, cur9, ev9, hb9, hnc9, hcm9, hcs9, -⟩ := hM9.blk (by omega)
          have HEV := Lib.hid ev9
          rw [hmap] at ev9
          injection ev9 with e1 e2 e3
          injection e1 with e1
          injection e1 with e1
          subst e1 e3
          have hfit : i * 5 + 5 ≤ cur9.size := by rw [hcs9]; omega
          have HX9 := Lib.hid (And.intro hM9 hb9)
          clear hO hb hM9 hb9 hcm9 hcs9 hnc9 e2
          go_wp2_with (first | (refine wpList_store_at rfl 40 (.tmp 62) (.tmp 61) rfl g (i * 5) (.agg #[.int .u64 0, .int .i64 0, .int .u64 0, .int .i64 0, .slice none 0 0]) rfl rfl 40 cur9 HX9.out.2 [.int .u64 0, .int .i64 0, .int .u64 0, .int .i64 0, .slice none 0 0] rfl (by kernel_rfl) hfit (by intro u hu; simp at hu; rcases hu with rfl | rfl | rfl | rfl | rfl <;> rfl) ?_))
          intro w10 hS10
          have hM10 := HX9.out.1.store (vs := [.int .u64 0, .int .i64 0, .int .u64 0, .int .i64 0, .slice none 0 0]) HH.out.2.2.1 (by omega) HEV.out HX9.out.2 rfl (by simpa using hS10)
          have HR : Hid (SoRel w F (.slice (some ⟨g, 0, none⟩) L.length c) xs L (.int .i64 (i + 1 : Nat)) w10) := Lib.hid ⟨i + 1, rfl, hil, hM10⟩
          clear hS10 hM10 HX9 HEV
          go_wp2_with fail
          go_roundw
          case rel => exact HR.out
          case measure => simp [intOf]; omega
    · have hii : ¬ (i : Int) < (L.length : Int) := by omega
      have HB := Lib.hid hM.only
      clear hM
      go_wp2_with fail
      go_ret
      exact ⟨rfl, HB.out⟩
end Go.Proofs.Ythipfcmjpgbemaa
