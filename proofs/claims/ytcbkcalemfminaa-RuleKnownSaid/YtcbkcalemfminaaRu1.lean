/- Addresses, prefixes, rules and keys as rows of cells. -/
import Derived.Test.YtcbkcalemfminaaRow
import Derived.Test.YtcbkcalemfminaaRows
import Derived.Outline
import Derived.Deep.MidRow
import Derived.Stop.BytesEq
namespace Go.Proofs.Ytcbkcalemfminaa
open Go.RowKit

def u8s (zs : List Nat) : List Value := zs.map fun n => .int .u8 (n : Nat)
theorem u8s_len (zs : List Nat) : (u8s zs).length = zs.length := by simp [u8s]

/-- An address: sixteen bytes, of which four may count. -/
structure Ad where
  six : Bool
  bs : List Nat
deriving DecidableEq
/-- A prefix. -/
structure Pf where
  a : Ad
  len : Int
deriving DecidableEq
/-- A rule. -/
structure Ru where
  ver : Int
  proto : Int
  src : Pf
  dst : Pf
  slo : Nat
  shi : Nat
  dlo : Nat
  dhi : Nat
  deny : Bool
  cls : Int
deriving DecidableEq
/-- A packet's key. -/
structure Ky where
  src : Ad
  dst : Ad
  proto : Nat
  sp : Nat
  dp : Nat

def Ad.cs (a : Ad) : List Value := .bool a.six :: u8s a.bs
def Pf.cs (p : Pf) : List Value := p.a.cs ++ [.int .i64 p.len]
def Ru.cs (r : Ru) : List Value := [.int .i64 r.ver, .int .i64 r.proto] ++ r.src.cs ++ r.dst.cs ++ [.int .u16 r.slo, .int .u16 r.shi, .int .u16 r.dlo, .int .u16 r.dhi, .bool r.deny, .int .i64 r.cls]
def Ky.cs (k : Ky) : List Value := k.src.cs ++ k.dst.cs ++ [.int .u8 k.proto, .int .u16 k.sp, .int .u16 k.dp]
def Ad.arr (a : Ad) : Array Value := a.cs.toArray
def Pf.arr (p : Pf) : Array Value := p.cs.toArray
def Ru.arr (r : Ru) : Array Value := r.cs.toArray
def Ky.arr (k : Ky) : Array Value := k.cs.toArray
/-- Sixteen bytes. -/
def Ad.Ok (a : Ad) : Prop := a.bs.length = 16 ∧ ∀ x ∈ a.bs, x < 256
structure Ru.Ok (r : Ru) : Prop where
  s : r.src.a.Ok
  d : r.dst.a.Ok
  p : r.slo < 65536 ∧ r.shi < 65536 ∧ r.dlo < 65536 ∧ r.dhi < 65536
structure Ky.Ok (k : Ky) : Prop where
  s : k.src.Ok
  d : k.dst.Ok
  p : k.proto < 256
theorem Ad.Ok.len {a : Ad} (h : a.Ok) : a.cs.length = 17 := by simp [Ad.cs, u8s_len, h.1]
theorem Pf.len_cs {p : Pf} (h : p.a.Ok) : p.cs.length = 18 := by simp [Pf.cs, h.len]
theorem Ru.Ok.len {r : Ru} (h : r.Ok) : r.cs.length = 44 := by simp [Ru.cs, Pf.len_cs h.s, Pf.len_cs h.d]
theorem Ky.Ok.len {k : Ky} (h : k.Ok) : k.cs.length = 37 := by simp [Ky.cs, h.s.len, h.d.len]

/-- A part of a range. -/
theorem range_part {w : World} {b o : Nat} {xs ys zs : List Value} (h : w.rangeAt b o (xs ++ ys ++ zs)) {n : Nat} (hn : xs.length = n) : w.rangeAt b (o + n) ys := by
  intro j v hj
  have := h (n + j) v (by
    rw [List.append_assoc, List.getElem?_append_right (by omega), hn, Nat.add_sub_cancel_left, List.getElem?_append_left (List.getElem?_eq_some_iff.1 hj).1]
    exact hj)
  rw [← this, Nat.add_assoc]
theorem range_block {w : World} {b : Nat} {xs : List Value} {T : TypeId} (h : w.heap[b]? = some (.cells xs.toArray T (0, 0))) : w.rangeAt b 0 xs := by
  intro j v hj
  rw [Nat.zero_add, cell_of_block h]
  simpa using hj
theorem range_below {w w' : World} {b o : Nat} {xs : List Value} (h : w.rangeAt b o xs) (hb : b < w.heap.size) (hB : Below w.heap.size w w') : w'.rangeAt b o xs := fun j v hj =>
  (hB.cell (p := ⟨b, o + j, none⟩) hb).trans (h j v hj)

section
variable {w : World} {b o : Nat}
theorem Pf.rA {p : Pf} (h : w.rangeAt b o p.cs) : w.rangeAt b o p.a.cs := by
  have := range_part (xs := []) (ys := p.a.cs) (zs := [.int .i64 p.len]) (n := 0) (by simpa [Pf.cs] using h) rfl
  simpa using this
theorem Pf.cLen {p : Pf} (hp : p.a.Ok) (h : w.rangeAt b o p.cs) : w.cell? ⟨b, o + 17, none⟩ = some (.int .i64 p.len) := h 17 _ (by
  unfold Pf.cs
  rw [List.getElem?_append_right (by rw [hp.len]; exact Nat.le_refl _), hp.len]
  rfl)
theorem Ad.cSix {a : Ad} (h : w.rangeAt b o a.cs) : w.cell? ⟨b, o, none⟩ = some (.bool a.six) := h 0 _ rfl
theorem Ad.rB {a : Ad} (h : w.rangeAt b o a.cs) : w.rangeAt b (o + 1) (u8s a.bs) := range_part (xs := [.bool a.six]) (zs := []) (by simpa [Ad.cs] using h) rfl
end

theorem map_cell {bs : List Nat} (h : ∀ x ∈ bs, x < 256) : u8s bs = (bs.map UInt8.ofNat).map Extern.Stop.cell := by
  unfold u8s
  rw [List.map_map]
  apply List.map_congr_left
  intro x hx
  have := h x hx
  simp [Extern.Stop.cell, Nat.mod_eq_of_lt this]
theorem map_u8_eq {xs ys : List Nat} (hx : ∀ x ∈ xs, x < 256) (hy : ∀ x ∈ ys, x < 256) : (xs.map UInt8.ofNat == ys.map UInt8.ofNat) = decide (xs = ys) := by
  rw [Bool.eq_iff_iff, beq_iff_eq, decide_eq_true_iff]
  refine ⟨fun e => ?_, fun e => by rw [e]⟩
  have hh : ∀ zs : List Nat, (∀ x ∈ zs, x < 256) → (zs.map UInt8.ofNat).map UInt8.toNat = zs := fun zs hz => by
    rw [List.map_map]
    conv => rhs; rw [← List.map_id zs]
    apply List.map_congr_left
    intro x h
    simpa using Nat.mod_eq_of_lt (hz x h)
  rw [← hh xs hx, e, hh ys hy]

theorem eq_bytes {d : Nat} {xs ys : List Nat} (hx : xs.length = 16 ∧ ∀ x ∈ xs, x < 256) (hy : ys.length = 16 ∧ ∀ x ∈ ys, x < 256) (w : World) :
    (Op.equalIn (d + 2) 23 (.agg (u8s xs).toArray) (.agg (u8s ys).toArray)).run Try.prog w = .ok (decide (xs = ys)) w := by
  rw [map_cell hx.2, map_cell hy.2, run_equalIn_bytes w d 23 5 16 Try.underlying23 Try.underlying5 (fun w => by simp [go_sem]) _ _ (by simp [hx.1]) (by simp [hy.1]), map_u8_eq hx.2 hy.2]

theorem eq_ad {d : Nat} {a c : Ad} (ha : a.Ok) (hc : c.Ok) (w : World) :
    (Op.equalIn (d + 3) 25 (.agg a.arr) (.agg c.arr)).run Try.prog w = .ok (decide (a = c)) w := by
  have h1 : a.arr.extract 1 17 = (u8s a.bs).toArray := by
    unfold Ad.arr Ad.cs
    simp [List.take_of_length_le, u8s_len, ha.1]
  have h2 : c.arr.extract 1 17 = (u8s c.bs).toArray := by
    unfold Ad.arr Ad.cs
    simp [List.take_of_length_le, u8s_len, hc.1]
  have g1 : a.arr[0]? = some (.bool a.six) := by simp [Ad.arr, Ad.cs]
  have g2 : c.arr[0]? = some (.bool c.six) := by simp [Ad.arr, Ad.cs]
  have e := eq_bytes (d := d) ha hc w
  simp [go_sem, part, h1, h2, g1, g2, e]
  obtain ⟨s1, l1⟩ := a
  obtain ⟨s2, l2⟩ := c
  simp only [Ad.mk.injEq]
  by_cases e1 : s1 = s2 <;> by_cases e2 : l1 = l2 <;> simp [e1, e2]

theorem eq_pf {d : Nat} {p q : Pf} (hp : p.a.Ok) (hq : q.a.Ok) (w : World) :
    (Op.equalIn (d + 4) 39 (.agg p.arr) (.agg q.arr)).run Try.prog w = .ok (decide (p = q)) w := by
  have h1 : ∀ {p : Pf}, p.a.Ok → p.arr.extract 0 17 = p.a.arr := fun {p} h => by
    unfold Pf.arr Pf.cs Ad.arr
    simp [h.len]
  have h2 : ∀ {p : Pf}, p.a.Ok → p.arr[17]? = some (.int .i64 p.len) := fun {p} h => by
    unfold Pf.arr Pf.cs
    simp [List.getElem?_append_right, h.len]
  have h3 : ∀ {a : Ad}, a.Ok → a.arr.extract 1 17 = (u8s a.bs).toArray := fun {a} h => by
    unfold Ad.arr Ad.cs
    simp [List.take_of_length_le, u8s_len, h.1]
  have h4 : ∀ {a : Ad}, a.arr[0]? = some (.bool a.six) := fun {a} => by simp [Ad.arr, Ad.cs]
  have e := eq_bytes (d := d) hp hq w
  simp [go_sem, part, h1 hp, h1 hq, h2 hp, h2 hq, h3 hp, h3 hq, h4, e]
  obtain ⟨⟨s1, b1⟩, l1⟩ := p
  obtain ⟨⟨s2, b2⟩, l2⟩ := q
  simp only [Pf.mk.injEq, Ad.mk.injEq]
  by_cases e1 : s1 = s2 <;> by_cases e2 : b1 = b2 <;> by_cases e3 : l1 = l2 <;> simp [e1, e2, e3]

theorem eql_pf {p q : Pf} (hp : p.a.Ok) (hq : q.a.Ok) (w : World) : (binOp .eql 39 (.agg p.arr) (.agg q.arr)).run Try.prog w = .ok (.bool (decide (p = q))) w := by
  rw [run_eql_struct, eq_pf (d := 9996) hp hq]
  rfl
theorem eql_bytes {xs ys : List Nat} (hx : xs.length = 16 ∧ ∀ x ∈ xs, x < 256) (hy : ys.length = 16 ∧ ∀ x ∈ ys, x < 256) (w : World) : (binOp .eql 23 (.agg (u8s xs).toArray) (.agg (u8s ys).toArray)).run Try.prog w = .ok (.bool (decide (xs = ys))) w := by
  rw [run_eql_struct, eq_bytes (d := 9998) hx hy]
  rfl
def Ad.zero : Ad := ⟨false, List.replicate 16 0⟩
def Pf.zero : Pf := ⟨Ad.zero, 0⟩
theorem Ad.zero_ok : Ad.zero.Ok := ⟨rfl, fun x hx => by rw [(List.mem_replicate.1 hx).2]; decide⟩
theorem Pf.zero_arr : #[.bool false, .int .u8 0, .int .u8 0, .int .u8 0, .int .u8 0, .int .u8 0, .int .u8 0, .int .u8 0, .int .u8 0, .int .u8 0, .int .u8 0, .int .u8 0, .int .u8 0, .int .u8 0, .int .u8 0, .int .u8 0, .int .u8 0, .int .i64 0] = Pf.zero.arr := rfl

/-! ### Loads as the walk is to meet them: not cell by cell -/
/-- A load of a whole row of cells. -/
@[irreducible] def loadRow (t : TypeId) (p : Value) : Sem Value := Instr.loadAt t p
theorem load_ad (p : Value) : Instr.loadAt 25 p = loadRow 25 p := by unfold loadRow; rfl
theorem load_pf (p : Value) : Instr.loadAt 39 p = loadRow 39 p := by unfold loadRow; rfl
theorem load_ru (p : Value) : Instr.loadAt 43 p = loadRow 43 p := by unfold loadRow; rfl
theorem load_ky (p : Value) : Instr.loadAt 28 p = loadRow 28 p := by unfold loadRow; rfl
theorem load_bs (p : Value) : Instr.loadAt 23 p = loadRow 23 p := by unfold loadRow; rfl
section
variable {w : World} {b o : Nat}
theorem row_ad {c : Ad} (hc : c.Ok) (h : w.rangeAt b o c.cs) : (loadRow 25 (.pointer (some ⟨b, o, none⟩))).run Try.prog w = .ok (.agg c.arr) w := by
  unfold loadRow
  exact run_loadAt_mid w b o _ c.cs _ h Try.underlying25 rfl (by rw [hc.len]; kernel_rfl)
theorem row_pf {c : Pf} (hc : c.a.Ok) (h : w.rangeAt b o c.cs) : (loadRow 39 (.pointer (some ⟨b, o, none⟩))).run Try.prog w = .ok (.agg c.arr) w := by
  unfold loadRow
  exact run_loadAt_mid w b o _ c.cs _ h Try.underlying39 rfl (by rw [Pf.len_cs hc]; kernel_rfl)
theorem row_ru {c : Ru} (hc : c.Ok) (h : w.rangeAt b o c.cs) : (loadRow 43 (.pointer (some ⟨b, o, none⟩))).run Try.prog w = .ok (.agg c.arr) w := by
  unfold loadRow
  exact run_loadAt_mid w b o _ c.cs _ h Try.underlying43 rfl (by rw [hc.len]; kernel_rfl)
theorem row_ky {c : Ky} (hc : c.Ok) (h : w.rangeAt b o c.cs) : (loadRow 28 (.pointer (some ⟨b, o, none⟩))).run Try.prog w = .ok (.agg c.arr) w := by
  unfold loadRow
  exact run_loadAt_mid w b o _ c.cs _ h Try.underlying28 rfl (by rw [hc.len]; kernel_rfl)
theorem row_bs {xs : List Nat} (hc : xs.length = 16) (h : w.rangeAt b o (u8s xs)) : (loadRow 23 (.pointer (some ⟨b, o, none⟩))).run Try.prog w = .ok (.agg (u8s xs).toArray) w := by
  unfold loadRow
  exact run_loadAt_mid w b o _ (u8s xs) _ h Try.underlying23 rfl (by rw [u8s_len, hc]; kernel_rfl)
end

/-- A result that lies in a cell. -/
theorem results_cell {P : Program} {fn : Func} {s t : Nat} {w : World} {tmps : Array Value} {p : Addr} {v : Value} (h : fn.results = #[.cell s t]) (ht : tmps.getD s undef = .pointer (some p)) (hl : (loadVar t p).run P w = .ok v w) : (results fn tmps).run P w = .ok v w := by
  unfold results
  rw [h]
  have ht' : tmps[s]?.getD undef = .pointer (some p) := by rw [← ht]; simp [Array.getD_eq_getD_getElem?]
  simp [ht', asAddr, hl]
theorem var_ad {w : World} {b o : Nat} {c : Ad} (hc : c.Ok) (h : w.rangeAt b o c.cs) : (loadVar 25 ⟨b, o, none⟩).run Try.prog w = .ok (.agg c.arr) w :=
  run_loadVar_mid w b o _ c.cs _ h Try.underlying25 rfl (by rw [hc.len]; kernel_rfl)
theorem var_pf {w : World} {b o : Nat} {c : Pf} (hc : c.a.Ok) (h : w.rangeAt b o c.cs) : (loadVar 39 ⟨b, o, none⟩).run Try.prog w = .ok (.agg c.arr) w :=
  run_loadVar_mid w b o _ c.cs _ h Try.underlying39 rfl (by rw [Pf.len_cs hc]; kernel_rfl)
theorem var_ru {w : World} {b o : Nat} {c : Ru} (hc : c.Ok) (h : w.rangeAt b o c.cs) : (loadVar 43 ⟨b, o, none⟩).run Try.prog w = .ok (.agg c.arr) w :=
  run_loadVar_mid w b o _ c.cs _ h Try.underlying43 rfl (by rw [hc.len]; kernel_rfl)

/-! ### A prefix is built -/
theorem len16 {bs : List Nat} (h : bs.length = 16) : ∃ x0 x1 x2 x3 x4 x5 x6 x7 x8 x9 x10 x11 x12 x13 x14 x15, bs = [x0, x1, x2, x3, x4, x5, x6, x7, x8, x9, x10, x11, x12, x13, x14, x15] :=
  match bs, h with
  | [x0, x1, x2, x3, x4, x5, x6, x7, x8, x9, x10, x11, x12, x13, x14, x15], _ => ⟨x0, x1, x2, x3, x4, x5, x6, x7, x8, x9, x10, x11, x12, x13, x14, x15, rfl⟩
/-- Building as the walk is to meet it: not cell by cell. -/
@[irreducible] def buildRow (t : TypeId) (parts : Array (Nat × Value)) : Sem Value := Instr.build t parts
theorem build_pf (parts : Array (Nat × Value)) : Instr.build 39 parts = buildRow 39 parts := by unfold buildRow; rfl
theorem build_ru (parts : Array (Nat × Value)) : Instr.build 43 parts = buildRow 43 parts := by unfold buildRow; rfl
theorem built_pf {a : Ad} (ha : a.Ok) (n : Int) (w : World) : (buildRow 39 #[(0, .agg a.arr), (1, .int .i64 n)]).run Try.prog w = .ok (.agg (Pf.mk a n).arr) w := by
  unfold buildRow
  refine run_build w _ _ _ ?_
  obtain ⟨s, bs⟩ := a
  obtain ⟨x0, x1, x2, x3, x4, x5, x6, x7, x8, x9, x10, x11, x12, x13, x14, x15, rfl⟩ := len16 ha.1
  kernel_rfl
theorem built_one {a : Ad} (ha : a.Ok) (w : World) : (buildRow 39 #[(0, .agg a.arr)]).run Try.prog w = .ok (.agg (Pf.mk a 0).arr) w := by
  unfold buildRow
  refine run_build w _ _ _ ?_
  obtain ⟨s, bs⟩ := a
  obtain ⟨x0, x1, x2, x3, x4, x5, x6, x7, x8, x9, x10, x11, x12, x13, x14, x15, rfl⟩ := len16 ha.1
  kernel_rfl
theorem built_zero (w : World) : (buildRow 39 #[]).run Try.prog w = .ok (.agg Pf.zero.arr) w := by
  unfold buildRow
  exact run_build w _ _ _ (by kernel_rfl)
theorem u8s_one {zs : List Nat} : ∀ v ∈ u8s zs, v.oneCell' = true := by
  intro v hv
  obtain ⟨n, _, rfl⟩ := List.mem_map.1 hv
  rfl
theorem Ad.one (a : Ad) : ∀ v ∈ a.cs, v.oneCell' = true := by
  intro v hv
  unfold Ad.cs at hv
  rcases List.mem_cons.1 hv with rfl | h
  · rfl
  · exact u8s_one v h
theorem Pf.one (p : Pf) : ∀ v ∈ p.cs, v.oneCell' = true := by
  intro v hv
  unfold Pf.cs at hv
  rcases List.mem_append.1 hv with h | h
  · exact p.a.one v h
  · simp at h; subst h; rfl
theorem Pf.all (p : Pf) : p.arr.all (·.oneCell') = true := by
  unfold Pf.arr
  rw [List.all_toArray, List.all_eq_true]
  exact p.one
theorem Pf.arr_size {p : Pf} (h : p.a.Ok) : p.arr.size = 18 := by
  unfold Pf.arr
  rw [List.size_toArray, Pf.len_cs h]

attribute [local go_sem ↓] load_ad load_pf load_ru load_ky load_bs
/-! ### A prefix that asks for nothing; its version -/
set_option maxRecDepth 100000 in
theorem none_is {p : Pf} (hp : p.a.Ok) (w : World) :
    Calls Try.prog 44 #[.agg p.arr] w fun e w' => e = .returned (.bool (decide (p = Pf.zero))) ∧ Below w.heap.size w w' := by
  have hB : Below w.heap.size w (w.alloc (.cells p.arr 39)) := (Below.refl _ _).alloc (Nat.le_refl _) _
  have hr : (w.alloc (.cells p.arr 39)).rangeAt w.heap.size 0 p.cs := range_block (alloc_block_new w (.cells p.arr 39))
  have he : ∀ w, (binOp .eql 39 (.agg p.arr) (.agg #[.bool false, .int .u8 0, .int .u8 0, .int .u8 0, .int .u8 0, .int .u8 0, .int .u8 0, .int .u8 0, .int .u8 0, .int .u8 0, .int .u8 0, .int .u8 0, .int .u8 0, .int .u8 0, .int .u8 0, .int .u8 0, .int .u8 0, .int .i64 0])).run Try.prog w = .ok (.bool (decide (p = Pf.zero))) w := fun w => by
    rw [Pf.zero_arr]
    exact eql_pf hp Ad.zero_ok w
  have hL := row_pf hp hr
  go_enter Try.func44, Try.ntmps44
  go_wp2_with fail
  go_ret
  exact ⟨rfl, hB⟩
end Go.Proofs.Ytcbkcalemfminaa
