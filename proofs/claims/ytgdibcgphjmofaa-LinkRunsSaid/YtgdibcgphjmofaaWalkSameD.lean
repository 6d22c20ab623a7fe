/-
 THE WALK of SameDigests, at two lists that are equal.
-/
import Derived.Test.YtgdibcgphjmofaaWalkDig
import Derived.Test.YtgdibcgphjmofaaWalkSame
import Derived.ChangeKeysEq
namespace Go.Proofs.Ytgdibcgphjmofaa
set_option maxHeartbeats 400000
open Go.RowKit
section
variable {P : Program} {ops : Array Oper} {C : World → Prop}
/-- A load of many cells, in a region that only reads. -/
theorem quiet_load {K : Act → Prop} {o : Oper} {a : Act} (hgd : o.guard = none) (ty : TypeId) (x : Operand) (ho : o.op = .load ty x)
  (b f : Nat) (hx : a.eval x = .pointer (some ⟨b, f, none⟩)) (cs : List Value) (d : TypeDesc) (hc : ∀ w, C w → w.rangeAt b f cs)
  (hu : P.underlying ty = some d) (hd : d.isRow = true) (hi : (P.info? ty).map (·.size) = some cs.length)
  (h : K (a.put o.dst (.agg cs.toArray))) : if Region.wanted o (yielded ops a.tmps) then o.quiet P a C K else K (a.put o.dst undef) := by
 have hw : Region.wanted o (yielded ops a.tmps) = true := by simp [Region.wanted, hgd]
 rw [if_pos hw]
 refine ⟨_, fun w hC => ?_, h⟩
 unfold Oper.quietAt execOp
 simp only [ho, hx, Instr.loadAt, Instr.sureAddr, Sem.run_bind, Sem.run_pure, Result.andThen_ok, run_loadVar_mid w b f ty cs d (hc w hC) hu hd hi]
 exact ⟨rfl, rfl⟩
end
theorem part_u8 (cs : List Value) (i : Nat) (hi : i < cs.length) (w : World) (h1 : ∀ u ∈ cs, ∃ n, u = .int .u8 n) : ∃ n, (part 5 cs.toArray i).run Try.prog w = .ok (.int .u8 n) w := by
 obtain ⟨i0, hi0, hz0, hz1, hz2⟩ := info_parts info_u8
 obtain ⟨n, hn⟩ := h1 cs[i] (List.getElem_mem hi)
 refine ⟨n, ?_⟩
 simp [part, isAgg, run_underlying Try.underlying5, hi, hn]
theorem eqItems_same (cs : List Value) (w : World) (h1 : ∀ u ∈ cs, ∃ n, u = .int .u8 n) : ∀ (is : List Nat), (∀ i ∈ is, i < cs.length) → (Op.eqItems 9999 5 1 cs.toArray cs.toArray is).run Try.prog w = .ok true w
 | [], _ => by simp [Op.eqItems]
 | i :: is, h => by
  obtain ⟨n, hp⟩ := part_u8 cs i (h i (by simp)) w h1
  simp only [Op.eqItems, Sem.run_bind, Nat.mul_one, hp, Result.andThen_ok]
  rw [run_equalIn_int w 9998 5 .u8 .u8 n n Try.underlying5]
  simp only [beq_self_eq_true, Result.andThen_ok, Bool.not_true, Bool.false_eq_true, if_false]
  exact eqItems_same cs w h1 is (fun j hj => h j (by simp [hj]))
theorem dig_cells (l : List UInt8) : ∀ u ∈ W.bc l, ∃ n, u = .int .u8 n := by
 intro u hu
 simp only [W.bc, List.mem_map] at hu
 obtain ⟨b, _, rfl⟩ := hu
 exact ⟨_, rfl⟩
end Go.Proofs.Ytgdibcgphjmofaa
