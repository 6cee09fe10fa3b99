/- The document's disk: strings, a row of writes; laid, lies, Now, Join, walked. -/
import Derived.Test.YtbgjahgmkbbgjaaDn
import Derived.Laws.AppendOwnNone
import Derived.Lib.ConvBytes
import Derived.WalkLawsBesides
import Derived.IntWalk
import Derived.Lib.Strings
import Derived.Deep.QuietTactic
import Derived.BigQuiet
import Derived.WalkSpells
namespace Go.Proofs.Ytbgjahgmkbbgjaa
open Go.RowKit

theorem bytes_ext {a b : ByteArray} (h : a.data.toList = b.data.toList) : a = b := by
  obtain ⟨⟨x⟩⟩ := a
  obtain ⟨⟨y⟩⟩ := b
  simp at h
  subst h
  rfl
theorem str8_data (zs : List Nat) : (str8 zs).data.toList = zs.map (fun z => UInt8.ofNat z) := by
  simp [str8, strOfNums, Function.comp_def]
theorem str8_size (zs : List Nat) : (str8 zs).size = zs.length := by
  simp [str8, strOfNums_size]
theorem str8_extract (zs : List Nat) (i j : Nat) : (str8 zs).extract i j = str8 ((zs.drop i).take (j - i)) := by
  apply bytes_ext
  rw [Lib.extract_data, str8_data, str8_data, List.map_take, List.map_drop]
theorem str8_append (a b : List Nat) : str8 a ++ str8 b = str8 (a ++ b) := by
  apply bytes_ext
  rw [str8_data, List.map_append, ← str8_data, ← str8_data]
  simp
theorem str8_empty : str8 [] = ⟨#[]⟩ := by apply bytes_ext; rw [str8_data]; rfl

/-- Numbers as bytes keep them. -/
def nrm (zs : List Nat) : List Nat := zs.map (· % 256)
theorem nrm_len (zs : List Nat) : (nrm zs).length = zs.length := by simp [nrm]
theorem str8_nrm (zs : List Nat) : str8 (nrm zs) = str8 zs := by
  apply bytes_ext
  rw [str8_data, str8_data]
  simp only [nrm, List.map_map]
  apply List.map_congr_left
  intro z _
  simp only [Function.comp]
  apply UInt8.toNat_inj.1
  simp

/-- Bytes appended onto nothing. -/
theorem wpList_append_h8 {w : World} {ops : Array Oper} {rest : List Oper} {op : Oper} {a : Act} {Q : Exit → Act → World → Prop} (hgd : op.guard = none) (s x : Operand)
    (ho : op.op = .call { callee := .builtin .append, args := #[s, x], argTypes := #[31, 31] })
    {v : Value} {zs : List Nat} (hs : a.eval s = .slice none 0 0) (hx : a.eval x = v) (hR : Holds8 w v zs) (hlen : zs.length ≤ 1000000)
    (h : ∀ v' w', Own8 w' w.heap.size v' zs → Below w.heap.size w w' → wpList Try.prog ops Q rest (a.put op.dst v') w') :
    wpList Try.prog ops Q (op :: rest) a w := by
  obtain ⟨i0, hi, hz0, hz1, hz2⟩ := info_parts info_u8c
  obtain ⟨ao, cap, hv, hc, hn, hlt, hx8⟩ := hR
  subst hv
  cases ao with
  | none =>
    have hz : zs = [] := List.eq_nil_of_length_eq_zero (by have := hn rfl; omega)
    subst hz
    obtain rfl : cap = 0 := hn rfl
    exact wpList_append_own_none hgd s x _ ho w.heap.size 5 i0 1 Try.underlying31 hi _ 0 [] hs (World.ownsRow_nil w _ _ _) hx (h _ _ (World.ownsRow_nil w _ _ _) (Below.refl _ _))
  | some ad =>
    refine wpList_append_own w hgd s x _ ho w.heap.size 5 i0 (.int .u8 0) 1 1 Try.underlying31 hi hz0 hz1 hz2 rfl (by decide) (.slice none 0 0) 0 [] hs (World.ownsRow_nil w _ _ _) ad zs.length cap (u8s zs) hx (by simp) (fun j u hu => ?_) u8s_one (by unfold maxLen; omega) (by omega) (Nat.le_refl _) (fun v' w' ho' hg' _ => h v' w' (by simpa using ho') ?_)
    · have hj : j < zs.length := by
        have := (List.getElem?_eq_some_iff.1 hu).1
        simpa using this
      obtain ⟨b, o, hb, hcc⟩ := hx8 (by omega)
      injection hb with hb
      subst hb
      rw [u8s_get zs j hj] at hu
      rw [Addr.add_lit, hcc j hj, hu]
    · exact ⟨hg'.os, hg'.tape, hg'.output, hg'.size, fun k hk => hg'.block k hk (by simp [Value.ownBlock])⟩

theorem holds_none (w : World) : Holds8 w (.slice none 0 0) [] := ⟨none, 0, rfl, Nat.le_refl _, fun _ => rfl, fun h => absurd h (by simp), fun h => absurd h (by simp)⟩

theorem join_is (y : Value) (zs : List Nat) (w : World) (hy : Holds8 w y zs) (hl : zs.length ≤ 1000000) :
    Calls Try.prog 34 #[.slice none 0 0, y] w fun e w' => ∃ v, e = .returned v ∧ Own8 w' w.heap.size v zs ∧ Below w.heap.size w w' := by
  have HY := Lib.hid hy
  clear hy
  obtain ⟨i0, hi, hz0, hz1, hz2⟩ := info_parts info_u8c
  go_enter Try.func34, Try.ntmps34
  go_wp2_with (first
    | (at_builtin; refine wpList_append_own_none rfl (.tmp 6) (.tmp 7) _ rfl w.heap.size 5 i0 1 Try.underlying31 hi _ 0 [] rfl (World.ownsRow_nil w _ _ _) rfl ?_)
    | (at_builtin; refine wpList_append_h8 rfl (.tmp 9) (.tmp 10) rfl rfl rfl HY.out hl ?_))
  intro v1 w1 ho1 hB1
  have HO := Lib.hid ho1
  have HB := Lib.hid hB1
  clear ho1 hB1
  go_wp2_with fail
  exact bodyPost_ret (v := v1) (by simp [results, Try.results34, go_sem]) rfl ⟨_, rfl, HO.out, HB.out⟩

/-- The document's writes, in a row. -/
def RW (w : World) (B : Nat) (v : Value) (L : List (Nat × List Nat)) : Prop :=
  (v = .slice none 0 0 ∧ L = []) ∨ ∃ g c cur, v = .slice (some ⟨g, 0, none⟩) L.length c ∧ B ≤ g ∧ w.heap[g]? = some (.cells cur 81 (0, 0)) ∧ L.length ≤ c ∧
    ∀ i (a : Nat) d, L[i]? = some (a, d) → cur[i * 2]? = some (.int .i64 a) ∧ cur[i * 2 + 1]? = some (.string (str8 d))
theorem RW.keep {w w' : World} {B : Nat} {v : Value} {L : List (Nat × List Nat)} (h : RW w B v L) {S : Nat → Prop} (hO : Only S w w') (hS : ∀ k, v.ownBlock = some k → ¬ S k) : RW w' B v L := by
  rcases h with h | ⟨g, c, cur, hv, hg, hh, h⟩
  · exact .inl h
  · exact .inr ⟨g, c, cur, hv, hg, hO.keep hh (hS g (by rw [hv]; rfl)), h⟩
theorem RW.below {w w' : World} {B : Nat} {v : Value} {L : List (Nat × List Nat)} (h : RW w B v L) (hB : Below w.heap.size w w') : RW w' B v L := h.keep (Below.only hB (fun _ => False)) (fun _ _ h => h)
theorem RW.ge {w : World} {B : Nat} {v : Value} {L : List (Nat × List Nat)} (h : RW w B v L) : ∀ k, v.ownBlock = some k → B ≤ k ∧ k < w.heap.size := by
  rcases h with ⟨rfl, _⟩ | ⟨g, c, cur, rfl, hg, hh, _⟩
  · intro k hk; simp [Value.ownBlock] at hk
  · intro k hk
    obtain rfl : g = k := by injection hk
    exact ⟨hg, lt_of_obj hh⟩
theorem RW.ty {w : World} {B : Nat} {v : Value} {L : List (Nat × List Nat)} (h : RW w B v L) : ∀ k, v.ownBlock = some k → ∃ c, w.heap[k]? = some (.cells c 81 (0, 0)) := by
  rcases h with ⟨rfl, _⟩ | ⟨g, c, cur, rfl, hg, hh, _⟩
  · intro k hk; simp [Value.ownBlock] at hk
  · intro k hk
    obtain rfl : g = k := by injection hk
    exact ⟨cur, hh⟩
theorem RW.shape {w : World} {B : Nat} {v : Value} {L : List (Nat × List Nat)} (h : RW w B v L) : ∃ ao c, v = .slice ao L.length c := by
  rcases h with ⟨rfl, rfl⟩ | ⟨g, c, cur, rfl, _⟩
  · exact ⟨none, 0, rfl⟩
  · exact ⟨_, c, rfl⟩
theorem RW.at {w : World} {B : Nat} {ao : Option Addr} {n c i a : Nat} {d : List Nat} {L : List (Nat × List Nat)} (h : RW w B (.slice ao n c) L) (hi : L[i]? = some (a, d)) :
    ∃ g, ao = some ⟨g, 0, none⟩ ∧ w.cell? ⟨g, i * 2, none⟩ = some (.int .i64 a) ∧ w.cell? ⟨g, i * 2 + 1, none⟩ = some (.string (str8 d)) := by
  rcases h with ⟨_, rfl⟩ | ⟨g, c, cur, hv, hg, hh, _, hx⟩
  · simp at hi
  · injection hv with e1 e2 e3
    obtain ⟨p, q⟩ := hx i a d hi
    exact ⟨g, e1, (cell_of_block hh _).trans p, (cell_of_block hh _).trans q⟩

theorem laid_str (zs ds : List Nat) (a : Nat) (h : a + ds.length ≤ zs.length) : (str8 zs).extract 0 a ++ str8 ds ++ (str8 zs).extract (a + ds.length) zs.length = str8 (laid zs a ds) := by
  have e1 : (zs.drop (a + ds.length)).take (zs.length - (a + ds.length)) = zs.drop (a + ds.length) := List.take_of_length_le (by simp)
  rw [str8_extract, str8_extract, str8_append, str8_append, List.drop_zero, Nat.sub_zero, e1]
  simp [laid]

theorem rlaid_is (zs ds : List Nat) (a : Nat) (h : a + ds.length ≤ zs.length) (hz : zs.length ≤ 65536) (w : World) :
    Calls Try.prog 44 #[.string (str8 zs), .int .i64 a, .string (str8 ds)] w fun e w' => e = .returned (.string (str8 (laid zs a ds))) ∧ ∃ n, w' = w.drewN n := by
  have e1 : (str8 zs).size = zs.length := str8_size zs
  have e2 : (str8 ds).size = ds.length := str8_size ds
  have e3 : IntKind.i64.wrap ((a : Int) + (ds.length : Int)) = (a : Int) + (ds.length : Int) := IntWalk.i64_in _ (by omega)
  go_enter Try.func44, Try.ntmps44
  go_wp2_with fail
  go_quiet (fail)
  have hs := laid_str zs ds a h
  clear e1 e2 e3
  go_wp2_with fail
  rw [hs]
  go_ret
  exact ⟨rfl, _, rfl⟩

/-- The document's disk as a value. -/
def rd (dur : List Nat) (v : Value) : Value := .agg #[.string (str8 dur), v]

theorem rlies_is (dur : List Nat) (v : Value) (hv : ∃ ao n c, v = .slice ao n c) (a n : Int) (hN : dur.length ≤ 65536) (w : World) :
    Calls Try.prog 43 #[rd dur v, .int .i64 a, .int .i64 n] w fun e w' => e = .returned (.bool (liesB dur.length a n)) ∧ Below w.heap.size w w' := by
  obtain ⟨ao, m, c, rfl⟩ := hv
  unfold rd
  have e1 : (str8 dur).size = dur.length := str8_size dur
  generalize str8 dur = s at *
  generalize dur.length = N at *
  have hB : Below w.heap.size w (w.alloc (.cells #[.string s, .slice ao m c] 66)) := (Below.refl _ _).alloc (Nat.le_refl _) _
  by_cases h1 : 0 ≤ a
  · by_cases h2 : 0 ≤ n
    · by_cases h3 : a ≤ N
      · have e : liesB N a n = decide (n ≤ N - a) := by simp [liesB, h1, h2, h3]
        rw [e]
        go_enter Try.func43, Try.ntmps43
        go_wp2_with fail
        go_ret
        exact ⟨rfl, hB⟩
      · have e : liesB N a n = false := by simp [liesB, h3]
        rw [e]
        go_enter Try.func43, Try.ntmps43
        go_wp2_with fail
        go_ret
        exact ⟨rfl, hB⟩
    · have e : liesB N a n = false := by simp [liesB, h2]
      rw [e]
      go_enter Try.func43, Try.ntmps43
      go_wp2_with fail
      go_ret
      exact ⟨rfl, hB⟩
  · have e : liesB N a n = false := by simp [liesB, h1]
    rw [e]
    go_enter Try.func43, Try.ntmps43
    go_wp2_with fail
    go_ret
    exact ⟨rfl, hB⟩

theorem lie_take {n : Nat} {L : List (Nat × List Nat)} (h : Lie n L) (k : Nat) : Lie n (L.take k) := fun x hx => h x (List.mem_of_mem_take hx)
theorem now_take {dur : List Nat} {L : List (Nat × List Nat)} {k a : Nat} {d : List Nat} (h : L[k]? = some (a, d)) : nowOf dur (L.take (k + 1)) = laid (nowOf dur (L.take k)) a d := by
  rw [List.take_add_one, h]
  exact nowOf_snoc _ _ _ _

/-- Ahead of each round of Now. -/
def NRel (w1 : World) (dur : List Nat) (L : List (Nat × List Nat)) (b i : Value) (wr : World) : Prop :=
  ∃ k : Nat, i = .int .i64 k ∧ b = .string (str8 (nowOf dur (L.take k))) ∧ k ≤ L.length ∧ Below w1.heap.size w1 wr

set_option maxRecDepth 100000 in
set_option maxHeartbeats 1000000 in
theorem rnow_is (dur : List Nat) {w : World} {B : Nat} {v : Value} {L : List (Nat × List Nat)} (h : RW w B v L) (hN : dur.length ≤ 65536) (hL : Lie dur.length L) (hl : L.length ≤ 1000000) :
    Calls Try.prog 40 #[rd dur v] w fun e w' => e = .returned (.string (str8 (nowOf dur L))) ∧ Below w.heap.size w w' := by
  obtain ⟨ao, c, rfl⟩ := h.shape
  unfold rd
  have hB : Below w.heap.size w (w.alloc (.cells #[.string (str8 dur), .slice ao L.length c] 66)) := (Below.refl _ _).alloc (Nat.le_refl _) _
  have hg := alloc_block_new w (.cells #[.string (str8 dur), .slice ao L.length c] 66)
  have h1 := h.below hB
  have HG := Lib.hid hg
  have HB := Lib.hid hB
  have HH := Lib.hid h1
  have HLI := Lib.hid hL
  clear h h1 hg hB hL
  go_enter Try.func40, Try.ntmps40
  go_wp2_with fail
  generalize (w.alloc (.cells #[.string (str8 dur), .slice ao L.length c] 66)) = w1 at *
  obtain ⟨g, eg⟩ : ∃ t, w.heap.size = t := ⟨_, rfl⟩
  rw [show (some (⟨w.heap.size, 0, none⟩ : Addr)) = some ⟨g, 0, none⟩ by rw [eg]]
  rw [eg] at HG
  clear eg
  go_loopw [3, 4] (NRel w1 dur L) (fun _ i _ => L.length - (intOf i).toNat)
  case atStart => exact ⟨0, rfl, rfl, Nat.zero_le _, Below.refl _ _⟩
  case round =>
    obtain ⟨k, rfl, rfl, hk, hBr⟩ := hrel
    have hgr := (hBr.block g (lt_of_obj HG.out)).trans HG.out
    have hgl := lt_of_obj hgr
    by_cases hlt : k < L.length
    · obtain ⟨⟨a, d⟩, hx⟩ : ∃ x, L[k]? = some x := ⟨_, List.getElem?_eq_getElem hlt⟩
      obtain ⟨rg, rfl, x0, x1⟩ := (HH.out.below hBr).at hx
      have hrl := World.block_lt_of_cell? wr _ x0
      have hlie : a + d.length ≤ dur.length := HLI.out (a, d) (List.mem_of_getElem? hx)
      have hnl : (nowOf dur (L.take k)).length = dur.length := nowOf_len (lie_take HLI.out k)
      have HLA : Hid (∀ z : World, Calls Try.prog 44 #[.string (str8 (nowOf dur (L.take k))), .int .i64 a, .string (str8 d)] z fun e w' => e = .returned (.string (str8 (nowOf dur (L.take (k + 1))))) ∧ ∃ n, w' = z.drewN n) := fun z => by
        rw [now_take hx]
        exact rlaid_is _ d a (by rw [hnl]; exact hlie) (by rw [hnl]; exact hN) z
      have cl : ∀ (x : Wld (fun x => Below wr.heap.size wr x)) (b i : Nat), b < wr.heap.size → x.w.cell? ⟨b, i, none⟩ = wr.cell? ⟨b, i, none⟩ := fun x b i hb => x.ok.cell (p := ⟨b, i, none⟩) hb
      have g0 : wr.cell? ⟨g, 1, none⟩ = some (.slice (some ⟨rg, 0, none⟩) L.length c) := cell_of_block hgr 1
      have k0 : ∀ z : Wld (fun x => Below wr.heap.size wr x), z.w.cell? ⟨g, 1, none⟩ = some (.slice (some ⟨rg, 0, none⟩) L.length c) := fun z => (cl z _ _ hgl).trans (cell_of_block hgr 1)
      have k1 : ∀ z : Wld (fun x => Below wr.heap.size wr x), z.w.cell? ⟨rg, k * 2, none⟩ = some (.int .i64 a) := fun z => (cl z _ _ hrl).trans x0
      have k2 : ∀ z : Wld (fun x => Below wr.heap.size wr x), z.w.cell? ⟨rg, k * 2 + 1, none⟩ = some (.string (str8 d)) := fun z => (cl z _ _ hrl).trans x1
      have j0 : (0 : Int) ≤ (k : Int) := by omega
      have j1 : (k : Int) < (L.length : Int) := by omega
      haveI hne : Nonempty (Wld (fun x => Below wr.heap.size wr x)) := ⟨⟨wr, Below.refl _ _⟩⟩
      have HBR := Lib.hid hBr
      clear cl hnl hx hBr hgr x0 x1
      go_wp2_with fail
      refine region_class (fun x => Below wr.heap.size wr x) (by kernel_rfl) (by kernel_rfl) (Below.refl _ _).drew ?_
      repeat (go_big_quiet_step ((rename_i z; go_at_call 44; exact (HLA.out z.w).mono fun e w' ⟨he, n, hn⟩ => ⟨he, ⟨w', by rw [hn]; exact z.ok.trans ((below_drewN (Below.refl _ _) n).mono z.ok.size)⟩, rfl⟩)))
      refine wpQuiet_nil ?_
      intro w3 hB3
      have HB3 := Lib.hid (HBR.out.trans (hB3.mono HBR.out.size))
      clear k0 k1 k2 hne HLA hB3 g0
      go_wp2_with fail
      go_roundw
      case rel => exact ⟨k + 1, by go_num, rfl, by omega, HB3.out⟩
      case measure => simp [intOf]; omega
    · have hkl : L.take k = L := List.take_of_length_le (by omega)
      rw [hkl]
      have hg1 : wr.cell? ⟨g, 1, none⟩ = some (.slice ao L.length c) := cell_of_block hgr 1
      have HBR := Lib.hid hBr
      clear hkl hgr hBr
      go_wp2_with fail
      go_ret
      exact ⟨rfl, HB.out.trans (HBR.out.mono HB.out.size)⟩
end Go.Proofs.Ytbgjahgmkbbgjaa
