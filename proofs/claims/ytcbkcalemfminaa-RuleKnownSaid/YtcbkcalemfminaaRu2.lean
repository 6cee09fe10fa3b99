/- How many bytes an address has; whether it is right: walked. -/
import Derived.Test.YtcbkcalemfminaaRu1
import Derived.Laws.CopyRow
import Derived.Deep.RegionHeld3
import Derived.Deep.RegionWith
namespace Go.Proofs.Ytcbkcalemfminaa
open Go.RowKit
attribute [local go_sem ↓] load_ad load_pf load_ru load_ky load_bs

def Ad.size (a : Ad) : Nat := if a.six = true then 16 else 4
def Ad.plain (a : Ad) : List Nat := a.bs.take a.size ++ List.replicate (16 - a.size) 0
def Ad.right (a : Ad) : Bool := decide (a.bs = a.plain)

theorem step_copy_by {P : Program} {ops : Array Oper} {o : Oper} {a : Act} {w : World} {K : Act → World → Prop} {Q : Exit → Act → World → Prop} {E : Prop} (hgd : o.guard = none) (d s : Operand) (t t' : TypeId)
    (ho : o.op = .call { callee := .builtin .copy, args := #[d, s], argTypes := #[t, t'] }) (v u : Value) (hd : a.eval d = v) (hs : a.eval s = u) {v' : Value} {w' : World}
    (hr : (Builtin.copy_ #[t, t'] o.type #[v, u]).run P w = .ok v' w') (hK : K (a.put o.dst v') w') :
    if Region.wanted o (yielded ops a.tmps) = true then Oper.wp P o a w K Q else E := by
  rw [if_pos (show Region.wanted o (yielded ops a.tmps) = true by simp only [Region.wanted, hgd])]
  unfold Oper.wp execOp
  simp only [ho, resolve, invoke, builtin, Sem.run_bind, Sem.run_pure, Result.andThen_ok, List.map_toArray, List.map_cons, List.map_nil, hd, hs, hr]
  exact hK

set_option maxRecDepth 100000 in
theorem size_is {a : Ad} (w : World) :
    Calls Try.prog 64 #[.agg a.arr] w fun e w' => e = .returned (.int .i64 a.size) ∧ Below w.heap.size w w' := by
  have hB : Below w.heap.size w (w.alloc (.cells a.arr 25)) := (Below.refl _ _).alloc (Nat.le_refl _) _
  have hr : (w.alloc (.cells a.arr 25)).rangeAt w.heap.size 0 a.cs := range_block (alloc_block_new w (.cells a.arr 25))
  have h6 := Ad.cSix hr
  obtain ⟨s, bs⟩ := a
  dsimp at h6
  cases s
  all_goals
    go_enter Try.func64, Try.ntmps64
    go_wp2_with fail
    go_ret
    exact ⟨rfl, hB⟩

theorem u8s_get (zs : List Nat) (j : Nat) : (u8s zs)[j]? = (zs[j]?).map fun n => .int .u8 (n : Nat) := by simp [u8s]
theorem info_u8c : (Try.prog.info? 5).map (·.size) = some 1 := by kernel_rfl
/-- The first bytes, copied into a row of noughts. -/
theorem copy_plain {w : World} {b : Nat} {a : Ad} (ha : a.Ok) (h : w.rangeAt b 0 a.cs) (hz : w.heap[b + 1]? = some (.cells (u8s (List.replicate 16 0)).toArray 23 (0, 0))) (ty : TypeId) {n : Nat} (hn : a.size = n) :
    (Builtin.copy_ #[109, 109] ty #[.slice (some ⟨b + 1, 0, none⟩) n 16, .slice (some ⟨b, 1, none⟩) 16 16]).run Try.prog w = .ok (goInt n) (w.setRow (b + 1) (u8s a.plain).toArray) := by
  subst hn
  have h16 : a.size ≤ 16 := by unfold Ad.size; split <;> omega
  have hl : (a.bs.take a.size).length = a.size := by rw [List.length_take, ha.1]; omega
  have hB := Ad.rB h
  have := run_copy_row (P := Try.prog) w 109 109 ty 5 (b + 1) 0 a.size 16 ⟨b, 1, none⟩ 16 16 _ _ (u8s (a.bs.take a.size)) Try.underlying109 info_u8c hz (by rw [u8s_len, hl]; exact (Nat.min_eq_right h16).symm)
    (by
      intro j u hu
      rw [Addr.add_lit]
      refine hB j u ?_
      have hj := (List.getElem?_eq_some_iff.1 hu).1
      rw [u8s_len, hl] at hj
      rw [u8s_get, List.getElem?_take_of_lt hj] at hu
      rw [u8s_get]
      exact hu) (by rw [u8s_len, hl]; simp [u8s]; exact h16) u8s_one
  rw [u8s_len, hl] at this
  rw [this]
  have e : List.take 0 (u8s (List.replicate 16 0)).toArray.toList ++ u8s (a.bs.take a.size) ++ List.drop (0 + a.size) (u8s (List.replicate 16 0)).toArray.toList = u8s a.plain := by
    unfold Ad.plain u8s
    generalize (16 : Nat) = N
    simp
  rw [e]

theorem Ad.plain_ok {a : Ad} (ha : a.Ok) : a.plain.length = 16 ∧ ∀ x ∈ a.plain, x < 256 := by
  have h16 : a.size ≤ 16 := by unfold Ad.size; split <;> omega
  refine ⟨by simp [Ad.plain, ha.1]; omega, fun x hx => ?_⟩
  rcases List.mem_append.1 hx with h | h
  · exact ha.2 x (List.mem_of_mem_take h)
  · rw [(List.mem_replicate.1 h).2]; decide
theorem range_setRow {w : World} {b g o : Nat} {cs : List Value} {xs : Array Value} (h : w.rangeAt b o cs) (hne : b ≠ g) : (w.setRow g xs).rangeAt b o cs := fun j v hj =>
  (World.cell?_of_block (a := ⟨b, o + j, none⟩) (setRow_other w g b xs hne)).trans (h j v hj)

set_option maxRecDepth 100000 in
theorem right_is {a : Ad} (ha : a.Ok) (w : World) :
    Calls Try.prog 63 #[.agg a.arr] w fun e w' => e = .returned (.bool a.right) ∧ Below w.heap.size w w' := by
  go_enter Try.func63, Try.ntmps63
  go_wp2_with fail
  have hB : Below w.heap.size w ((w.alloc (.cells a.arr 25)).alloc (.cells #[.int .u8 0, .int .u8 0, .int .u8 0, .int .u8 0, .int .u8 0, .int .u8 0, .int .u8 0, .int .u8 0, .int .u8 0, .int .u8 0, .int .u8 0, .int .u8 0, .int .u8 0, .int .u8 0, .int .u8 0, .int .u8 0] 23)) := ((Below.refl _ _).alloc (Nat.le_refl _) _).alloc (by simp) _
  have g0 : ((w.alloc (.cells a.arr 25)).alloc (.cells #[.int .u8 0, .int .u8 0, .int .u8 0, .int .u8 0, .int .u8 0, .int .u8 0, .int .u8 0, .int .u8 0, .int .u8 0, .int .u8 0, .int .u8 0, .int .u8 0, .int .u8 0, .int .u8 0, .int .u8 0, .int .u8 0] 23)).heap[w.heap.size]? = some (.cells a.arr 25 (0, 0)) := (alloc_block_old _ (by simp)).trans (alloc_block_new w _)
  have g1 : ((w.alloc (.cells a.arr 25)).alloc (.cells #[.int .u8 0, .int .u8 0, .int .u8 0, .int .u8 0, .int .u8 0, .int .u8 0, .int .u8 0, .int .u8 0, .int .u8 0, .int .u8 0, .int .u8 0, .int .u8 0, .int .u8 0, .int .u8 0, .int .u8 0, .int .u8 0] 23)).heap[w.heap.size + 1]? = some (.cells (u8s (List.replicate 16 0)).toArray 23 (0, 0)) := alloc_block_at _ _ (by simp)
  generalize (w.alloc (.cells a.arr 25)).alloc (.cells #[.int .u8 0, .int .u8 0, .int .u8 0, .int .u8 0, .int .u8 0, .int .u8 0, .int .u8 0, .int .u8 0, .int .u8 0, .int .u8 0, .int .u8 0, .int .u8 0, .int .u8 0, .int .u8 0, .int .u8 0, .int .u8 0] 23) = w2 at *
  have hr : w2.rangeAt w.heap.size 0 a.cs := range_block g0
  have hL : ∀ w' : World, w'.rangeAt w.heap.size 0 a.cs → (loadRow 25 (.pointer (some ⟨w.heap.size, 0, none⟩))).run Try.prog w' = .ok (.agg a.arr) w' := fun w' h => row_ad ha h
  have hl0 := lt_of_obj g0
  have hl1 := lt_of_obj g1
  have hbb : w.heap.size ≤ w.heap.size := Nat.le_refl _
  generalize hbe : w.heap.size = b at *
  have HBb := Lib.hid hbe
  clear hbe hbb
  have G := Lib.hid (And.intro g0 g1)
  have HB := Lib.hid hB
  clear g0 g1 hB
  have hsz : (a.six = true ∧ a.size = 16) ∨ (a.six = false ∧ a.size = 4) := by
    unfold Ad.size
    cases a.six
    · exact .inr ⟨rfl, rfl⟩
    · exact .inl ⟨rfl, rfl⟩
  have HC : Hid (∀ w' : World, Below w2.heap.size w2 w' → w'.rangeAt b 0 a.cs ∧ ∀ ty, (Builtin.copy_ #[109, 109] ty #[.slice (some ⟨b + 1, 0, none⟩) a.size 16, .slice (some ⟨b, 1, none⟩) 16 16]).run Try.prog w' = .ok (goInt a.size) (w'.setRow (b + 1) (u8s a.plain).toArray)) := fun w' hB =>
    ⟨range_below hr hl0 hB, fun ty => copy_plain ha (range_below hr hl0 hB) ((hB.block _ hl1).trans G.out.2) ty rfl⟩
  rcases hsz with ⟨_, hn⟩ | ⟨_, hn⟩
  all_goals
    rw [hn] at HC
    go_region_held3 (fun w' => w'.rangeAt b 0 a.cs) (first | assumption | exact hr | exact hr3 | exact range_setRow hr3 (by omega))
      (first
        | (go_at_call 64; refine Calls.mono (size_is _) ?_; rintro e w3 ⟨rfl, hB3⟩; rw [hn]
           have HB3 : Hid (Below w2.heap.size w2 w3) := (Below.refl w2.heap.size w2).drew.trans hB3
           obtain ⟨hr3, hc3⟩ := HC.out w3 HB3.out; clear hB3)
        | (refine step_copy_by rfl (.tmp 6) (.tmp 8) _ _ rfl _ _ rfl rfl (hc3 _) ?_))
    all_goals
      have hz3 := (HB3.out.block _ hl1).trans G.out.2
      have hst := stored_setRow (cs := (u8s a.plain).toArray) hz3
      have hr4 : (w3.setRow (b + 1) (u8s a.plain).toArray).rangeAt b 0 a.cs := range_setRow hr3 (by omega)
      have hOn : Only (fun k => k = b + 1) w2 (w3.setRow (b + 1) (u8s a.plain).toArray) := (Below.only HB3.out _).trans (hst.only.mono fun k _ e => e)
      have hBl := HB.out.trans (hOn.below (B := b) (by have := HBb.out; have := HB.out.size; omega) (fun k hk e => by omega))
      have hb1 := hst.blk
      generalize w3.setRow (b + 1) (u8s a.plain).toArray = w4 at *
      have l1 := row_bs ha.1 (Ad.rB hr4)
      have l2 := row_bs (Ad.plain_ok ha).1 (range_block hb1)
      have he : ∀ w, (binOp .eql 23 (.agg (u8s a.bs).toArray) (.agg (u8s a.plain).toArray)).run Try.prog w = .ok (.bool (decide (a.bs = a.plain))) w := fun w => eql_bytes ha (Ad.plain_ok ha) w
      rw [Nat.zero_add] at l1
      have HF := Lib.hid hBl
      clear hst hr4 hOn hBl hb1 hz3
      go_wp2_with fail
      go_ret
      exact ⟨rfl, by rw [HBb.out]; exact HF.out⟩
end Go.Proofs.Ytcbkcalemfminaa
