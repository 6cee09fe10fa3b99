/- A row of numbers that is appended to behind and cut off ahead: 'in = append(in, x)', 'in = in[1:]'. -/
import Derived.Test.YtpnhdfingcfbnaaFo1
import Derived.ArgAppend
namespace Go.Proofs.Ytpnhdfingcfbnaa
open Go.RowKit

/-- Numbers in a row of the call's own, from whatever place on. -/
def InRow (w : World) (B : Nat) (v : Value) (ns : List Nat) : Prop :=
  (v = .slice none 0 0 ∧ ns = []) ∨ ∃ g o c cur, v = .slice (some ⟨g, o, none⟩) ns.length c ∧ B ≤ g ∧ w.heap[g]? = some (.cells cur 30 (0, 0)) ∧ ns.length ≤ c ∧ o + c ≤ cur.size ∧ ∀ j (x : Nat), ns[j]? = some x → cur[o + j]? = some (.int .u64 x)

theorem InRow.keep {w w' : World} {B : Nat} {v : Value} {ns : List Nat} (h : InRow w B v ns) {S : Nat → Prop} (hO : Only S w w') (hS : ∀ k, v.ownBlock = some k → ¬ S k) : InRow w' B v ns := by
  rcases h with h | ⟨g, o, c, cur, hv, hg, hh, h⟩
  · exact .inl h
  · exact .inr ⟨g, o, c, cur, hv, hg, hO.keep hh (hS g (by rw [hv]; rfl)), h⟩
theorem InRow.below {w w' : World} {B : Nat} {v : Value} {ns : List Nat} (h : InRow w B v ns) (hB : Below w.heap.size w w') : InRow w' B v ns := h.keep (Below.only hB (fun _ => False)) (fun _ _ h => h)
theorem InRow.ge {w : World} {B : Nat} {v : Value} {ns : List Nat} (h : InRow w B v ns) : ∀ k, v.ownBlock = some k → B ≤ k ∧ k < w.heap.size := by
  rcases h with ⟨rfl, _⟩ | ⟨g, o, c, cur, rfl, hg, hh, _⟩
  · intro k hk; simp [Value.ownBlock] at hk
  · intro k hk
    have : g = k := by injection hk
    subst this
    exact ⟨hg, lt_of_obj hh⟩
theorem InRow.shape {w : World} {B : Nat} {v : Value} {ns : List Nat} (h : InRow w B v ns) : ∃ ao c, v = .slice ao ns.length c ∧ (0 < ns.length → ∃ g o, ao = some ⟨g, o, none⟩ ∧ ∀ j (x : Nat), ns[j]? = some x → w.cell? ⟨g, o + j, none⟩ = some (.int .u64 x)) := by
  rcases h with ⟨rfl, rfl⟩ | ⟨g, o, c, cur, rfl, hg, hh, _, _, hx⟩
  · exact ⟨none, 0, rfl, fun h => absurd h (by simp)⟩
  · exact ⟨_, c, rfl, fun _ => ⟨g, o, rfl, fun j x hj => (cell_of_block hh _).trans (hx j x hj)⟩⟩

/-- One off ahead. -/
theorem InRow.tail {w : World} {B : Nat} {v : Value} {x : Nat} {ns : List Nat} (h : InRow w B v (x :: ns)) {ao : Option Addr} {n c : Nat} (hv : v = .slice ao n c) :
    InRow w B (.slice (if c = 1 then ao else ao.map (·.add 1)) ns.length (c - 1)) ns ∧ n = ns.length + 1 ∧ 1 ≤ c ∧ (Value.slice (if c = 1 then ao else ao.map (·.add 1)) ns.length (c - 1)).ownBlock = v.ownBlock := by
  rcases h with ⟨_, h0⟩ | ⟨g, o, cp, cur, hv2, hg, hh, hc, hs, hx⟩
  · simp at h0
  · rw [hv] at hv2
    injection hv2 with e1 e2 e3
    subst e1 e2 e3
    simp only [List.length_cons] at hc
    refine ⟨?_, rfl, by omega, ?_⟩
    · by_cases h1 : c = 1
      · subst h1
        refine .inr ⟨g, o, 0, cur, by simp, hg, hh, by omega, by omega, fun j y hj => ?_⟩
        have := (List.getElem?_eq_some_iff.1 hj).1
        omega
      · refine .inr ⟨g, o + 1, c - 1, cur, ?_, hg, hh, by omega, by omega, fun j y hj => ?_⟩
        · simp [h1, Addr.add_lit]
        · have := hx (j + 1) y (by simpa using hj)
          rw [show o + 1 + j = o + (j + 1) by omega]
          exact this
    · subst hv
      by_cases h1 : c = 1
      · simp [h1, Value.ownBlock]
      · simp [h1, Value.ownBlock, Addr.add_lit]

theorem InRow.head {w : World} {B : Nat} {ia : Option Addr} {n c x : Nat} {ns : List Nat} (h : InRow w B (.slice ia n c) (x :: ns)) : ∃ g o, ia = some ⟨g, o, none⟩ ∧ w.cell? ⟨g, o, none⟩ = some (.int .u64 x) := by
  obtain ⟨ao, cp, hv, hx⟩ := h.shape
  injection hv with e1 e2 e3
  subst e1
  obtain ⟨g, o, e, hc⟩ := hx (by simp)
  exact ⟨g, o, e, hc 0 x rfl⟩
theorem InRow.at {w : World} {B : Nat} {ia : Option Addr} {n c x j : Nat} {ns : List Nat} (h : InRow w B (.slice ia n c) ns) (hj : ns[j]? = some x) : ∃ g o, ia = some ⟨g, o, none⟩ ∧ w.cell? ⟨g, o + j, none⟩ = some (.int .u64 x) := by
  obtain ⟨ao, cp, hv, hx⟩ := h.shape
  injection hv with e1 e2 e3
  subst e1
  obtain ⟨g, o, e, hc⟩ := hx (by have := (List.getElem?_eq_some_iff.1 hj).1; omega)
  exact ⟨g, o, e, hc j x hj⟩

theorem info_u64r : (Try.prog.info? 30).map (fun i => (i.zero, i.size, i.bytes)) = some (some (Value.int .u64 0), 1, 8) := by kernel_rfl

theorem run_append_in {w : World} {B : Nat} {v : Value} {ns : List Nat} (hI : InRow w B v ns) (ad : Addr) (x c : Nat) (hnews : ∀ j u, [Value.int .u64 x][j]? = some u → w.cell? (ad.add j) = some u) (hlen : ns.length ≤ 100000) (hB : B ≤ w.heap.size) (ty : TypeId) :
    ∃ v' w', (Builtin.append_ #[55, 55] ty #[v, .slice (some ad) 1 c]).run Try.prog w = .ok v' w' ∧ InRow w' B v' (ns ++ [x]) ∧ Only (fun k => v.ownBlock = some k) w w' ∧ ∀ k, v'.ownBlock = some k → v.ownBlock = some k ∨ w.heap.size ≤ k := by
  obtain ⟨i0, hi, hz0, hz1, hz2⟩ := info_parts info_u64r
  have grown : ∀ (v' : Value) (w' : World), w'.ownsRow w.heap.size 30 1 v' (ns.length + 1) (ns.map (fun (n : Nat) => Value.int .u64 n) ++ [Value.int .u64 x]) → w.grownBy w' none →
      InRow w' B v' (ns ++ [x]) ∧ Only (fun k => v.ownBlock = some k) w w' ∧ ∀ k, v'.ownBlock = some k → v.ownBlock = some k ∨ w.heap.size ≤ k := by
    intro v' w' ho hg
    refine ⟨?_, ⟨hg.os, hg.tape, hg.output, hg.size, fun k hk _ => hg.block k hk (by simp)⟩, fun k hk => .inr (ho.lt k hk).1⟩
    rcases ho.2 with ⟨_, h0⟩ | ⟨g, cap, cur, hv, hge, hh, hnc, hcm, hcs, hx⟩
    · omega
    · refine .inr ⟨g, 0, cap, cur, by rw [hv]; simp, by omega, hh, by simpa using hnc, by omega, fun j y hj => ?_⟩
      have hjl : j < (ns ++ [x]).length := (List.getElem?_eq_some_iff.1 hj).1
      have hm : (ns.map (fun (n : Nat) => Value.int .u64 n) ++ [Value.int .u64 x]) = (ns ++ [x]).map (fun (n : Nat) => Value.int .u64 n) := by simp
      rw [hm] at hx
      have h1 : (cur.toList.take ((ns.length + 1) * 1))[j]? = some (.int .u64 y) := by rw [hx, List.getElem?_map, hj]; rfl
      rw [List.getElem?_take] at h1
      split at h1
      · rw [Nat.zero_add]; simpa using h1
      · simp at h1
  rcases hI with ⟨rfl, rfl⟩ | ⟨g, o, cp, cur, hv, hg, hh, hc, hs, hx⟩
  · obtain ⟨v', w', hrun, r1, r2, _⟩ := run_append_own (P := Try.prog) w w.heap.size 55 ty 30 i0 _ 1 8 Try.underlying55 hi hz0 hz1 hz2 rfl (by omega) (.slice none 0 0) 0 [] (World.ownsRow_nil w _ _ _) ad 1 c [Value.int .u64 x] rfl hnews (fun u hu => by simp at hu; subst hu; rfl) (by decide) (by decide) (Nat.le_refl _)
    exact ⟨v', w', hrun, grown v' w' r1 r2⟩
  · subst hv
    by_cases hr : ns.length + 1 ≤ cp
    · have hrun := run_append_room_cells (P := Try.prog) w 55 ty 30 i0 Try.underlying55 hi g o ns.length cp ad 1 c [Value.int .u64 x] (by rw [hz1]; rfl) hnews (fun u hu => by simp at hu; subst hu; rfl) hr
        (fun j hj => by
          simp at hj
          subst hj
          rw [hz1, cell_of_block hh, Array.getElem?_eq_getElem (show o + ns.length * 1 + 0 < cur.size by omega)]
          rfl)
        (fun j _ => free_of_block hh _)
      rw [hz1] at hrun
      refine ⟨_, _, hrun, .inr ⟨g, o, cp, _, by simp, hg, setCell_block hh _ _, by simpa using hr, by simpa using hs, fun j y hj => ?_⟩, Only.setCell (S := fun k => (Value.slice (some ⟨g, o, none⟩) ns.length cp).ownBlock = some k) (p := ⟨g, o + ns.length * 1, none⟩) (Only.refl _ w) (fun _ => rfl) (.int .u64 x), fun k hk => .inl hk⟩
      have hjl : j < (ns ++ [x]).length := (List.getElem?_eq_some_iff.1 hj).1
      simp only [List.length_append, List.length_cons, List.length_nil] at hjl
      by_cases hje : j < ns.length
      · rw [List.getElem?_append_left hje] at hj
        rw [Array.getElem?_setIfInBounds_ne (by omega)]
        exact hx j y hj
      · obtain rfl : j = ns.length := by omega
        simp at hj
        subst hj
        rw [show o + ns.length * 1 = o + ns.length by omega, Array.getElem?_setIfInBounds_self_of_lt (by omega)]
    · obtain ⟨v', w', hrun, r1, r2⟩ := run_append_arg_grows (P := Try.prog) w 55 ty 30 i0 _ 1 8 Try.underlying55 hi hz0 hz1 hz2 rfl (by omega) ⟨g, o, none⟩ ns.length cp (ns.map (fun (n : Nat) => Value.int .u64 n)) (by simp)
        (fun j u hj => by
          rw [Addr.add_lit, cell_of_block hh]
          rw [List.getElem?_map] at hj
          obtain ⟨y, hy, rfl⟩ := Option.map_eq_some_iff.1 hj
          exact hx j y hy)
        ad 1 c [Value.int .u64 x] rfl hnews (by omega) (by simp only [maxLen]; omega) (by omega)
      exact ⟨v', w', hrun, grown v' w' r1 r2⟩

theorem wpList_append_in {w : World} {ops : Array Oper} {rest : List Oper} {op : Oper} {a : Act} {Q : Exit → Act → World → Prop} (hgd : op.guard = none) (s x : Operand)
    (ho : op.op = .call { callee := .builtin .append, args := #[s, x], argTypes := #[55, 55] })
    {B : Nat} {v : Value} {ns : List Nat} (hs : a.eval s = v) (hI : InRow w B v ns) (ad : Addr) (y c : Nat) (hx : a.eval x = .slice (some ad) 1 c) (hnews : ∀ j u, [Value.int .u64 y][j]? = some u → w.cell? (ad.add j) = some u) (hlen : ns.length ≤ 100000) (hB : B ≤ w.heap.size)
    (h : ∀ v' w', InRow w' B v' (ns ++ [y]) → Only (fun k => v.ownBlock = some k) w w' → (∀ k, v'.ownBlock = some k → v.ownBlock = some k ∨ w.heap.size ≤ k) → wpList Try.prog ops Q rest (a.put op.dst v') w') :
    wpList Try.prog ops Q (op :: rest) a w := by
  refine wpList_plain hgd fun K hK => ?_
  obtain ⟨v', w', hr, h2, h3, h4⟩ := run_append_in hI ad y c hnews hlen hB op.type
  unfold Oper.wp execOp
  simp only [ho, resolve, invoke, builtin, Sem.run_bind, Sem.run_pure, Result.andThen_ok, List.map_toArray, List.map_cons, List.map_nil, hs, hx, hr]
  exact hK _ _ (h v' w' h2 h3 h4)
end Go.Proofs.Ytpnhdfingcfbnaa
