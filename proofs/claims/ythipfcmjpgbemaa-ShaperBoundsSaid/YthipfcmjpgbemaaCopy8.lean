/- copy of bytes into an own row. -/
import Derived.Test.YthipfcmjpgbemaaClone
import Derived.Laws.IdiomCopy
import Derived.Laws.CopyRow
namespace Go.Proofs.Ythipfcmjpgbemaa
open Go.RowKit

/-- Bytes with others in place of some. -/
def laid (zs : List Nat) (i : Nat) (ys : List Nat) : List Nat := zs.take i ++ (ys ++ zs.drop (i + ys.length))
theorem laid_len {zs ys : List Nat} {i : Nat} (h : i + ys.length ≤ zs.length) : (laid zs i ys).length = zs.length := by simp [laid]; omega

theorem take_laid {L : List Value} {zs ys : List Nat} {i : Nat} (e : L.take zs.length = u8s zs) (hi : i + ys.length ≤ zs.length) :
    (L.take i ++ u8s ys ++ L.drop (i + ys.length)).take zs.length = u8s (laid zs i ys) := by
  obtain ⟨r, rfl⟩ : ∃ r, L = u8s zs ++ r := ⟨L.drop zs.length, by rw [← e, List.take_append_drop]⟩
  have h1 : (u8s zs ++ r).take i = u8s (zs.take i) := by
    rw [List.take_append_of_le_length (by simp; omega)]
    simp [u8s, List.map_take]
  have h2 : (u8s zs ++ r).drop (i + ys.length) = u8s (zs.drop (i + ys.length)) ++ r := by
    rw [List.drop_append_of_le_length (by simp; omega)]
    simp [u8s, List.map_drop]
  rw [h1, h2]
  have h3 : u8s (zs.take i) ++ u8s ys ++ (u8s (zs.drop (i + ys.length)) ++ r) = u8s (laid zs i ys) ++ r := by simp [u8s, laid]
  rw [h3, List.take_append_of_le_length (by simp [laid_len hi]), List.take_of_length_le (by simp [laid_len hi])]

theorem run_copy8 {w : World} {base : Nat} {v : Value} {zs : List Nat} (h : Own8 w base v zs) (i : Nat) {ys : List Nat} (hi : i + ys.length ≤ zs.length) (ty : TypeId)
    (b : Option Addr) (c n : Nat) (hv : v = .slice b zs.length c) (dst : Value) (hd : (dst = .slice (Option.map (fun x => x.add i) b) (zs.length - i) n) ∨ (c = i ∧ dst = .slice b (zs.length - i) n)) {src : Value} (hs : Holds8 w src ys) :
    ∃ w', (Builtin.copy_ #[32, 32] ty #[dst, src]).run Try.prog w = .ok (goInt ys.length) w' ∧ Own8 w' base v (laid zs i ys) ∧ Only (fun k => v.ownBlock = some k) w w' ∧ w'.heap.size = w.heap.size := by
  obtain ⟨i0, hinf, hz0, hz1, hz2⟩ := info_parts info_u8c
  have hsz : (Try.prog.info? 5).map (·.size) = some 1 := by rw [hinf]; simp [hz1]
  obtain ⟨ao, cap, rfl, hcap, _, _, hc⟩ := hs
  by_cases h0 : ys.length = 0
  · have hy : ys = [] := List.eq_nil_of_length_eq_zero h0
    subst hy
    have hl : laid zs i [] = zs := by simp [laid]
    rw [hl]
    refine ⟨w, ?_, h, Only.refl _ _, rfl⟩
    rcases hd with rfl | ⟨_, rfl⟩
    · exact run_copy_none (P := Try.prog) w _ _ ty 5 _ _ _ _ _ _ Try.underlying32 hsz (by simp)
    · exact run_copy_none (P := Try.prog) w _ _ ty 5 _ _ _ _ _ _ Try.underlying32 hsz (by simp)
  · obtain ⟨sb, so, rfl, hsrc⟩ := hc (by omega)
    rcases h.2 with ⟨hv0, hz⟩ | ⟨g, cp, cur, hv2, hg, hh, hnc, hcm, hcs, hx⟩
    · omega
    · have hb : b = some ⟨g, 0, none⟩ ∧ c = cp := by rw [hv] at hv2; injection hv2 with e1 e2 e3; exact ⟨e1, e3⟩
      obtain ⟨rfl, rfl⟩ := hb
      have hd2 : dst = .slice (some ⟨g, i, none⟩) (zs.length - i) n := by
        rcases hd with rfl | ⟨rfl, rfl⟩
        · simp [Addr.add_lit]
        · omega
      subst hd2
      have hrow := run_copy_row (P := Try.prog) w 32 32 ty 5 g i (zs.length - i) n ⟨sb, so, none⟩ ys.length cap cur 5 (u8s ys) Try.underlying32 hsz hh (by rw [u8s_len]; exact (Nat.min_eq_left (by omega)).symm)
        (by
          intro j u hu
          have hj : j < ys.length := by
            have := (List.getElem?_eq_some_iff.1 hu).1
            simpa using this
          rw [u8s_get ys j hj] at hu
          rw [Addr.add_lit, hsrc j hj, hu]) (by simp; omega) u8s_one
      rw [u8s_len] at hrow
      have hst := stored_setRow (cs := (cur.toList.take i ++ u8s ys ++ cur.toList.drop (i + ys.length)).toArray) hh
      refine ⟨_, hrow, ?_, hst.only.mono (fun k _ e => by subst e; rw [hv2]; rfl), hst.size⟩
      have hll := laid_len hi
      refine ⟨by simp, .inr ⟨g, c, _, ?_, hg, hst.blk, ?_, hcm, ?_, ?_⟩⟩
      · rw [hv2, hll]
      · omega
      · simp
        have : cur.size = c := by omega
        omega
      · rw [hll]
        simpa using take_laid (by simpa using hx) hi

section
variable {P : Program}
theorem wpList_copy_by (w : World) {ops : Array Oper} {rest : List Oper} {o : Oper} {a : Act} {Q : Exit → Act → World → Prop} (hgd : o.guard = none) (d s : Operand) (t t' : TypeId)
    (ho : o.op = .call { callee := .builtin .copy, args := #[d, s], argTypes := #[t, t'] }) (v u : Value) (hd : a.eval d = v) (hs : a.eval s = u) {v' : Value} {w' : World}
    (hr : (Builtin.copy_ #[t, t'] o.type #[v, u]).run P w = .ok v' w') (h : wpList P ops Q rest (a.put o.dst v') w') : wpList P ops Q (o :: rest) a w := by
  refine wpList_plain hgd fun K hK => ?_
  unfold Oper.wp execOp
  simp only [ho, resolve, invoke, builtin, Sem.run_bind, Sem.run_pure, Result.andThen_ok, List.map_toArray, List.map_cons, List.map_nil, hd, hs, hr]
  exact hK _ _ h
end
end Go.Proofs.Ythipfcmjpgbemaa
