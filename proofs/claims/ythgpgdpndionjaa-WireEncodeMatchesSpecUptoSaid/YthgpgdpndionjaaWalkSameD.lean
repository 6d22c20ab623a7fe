/-
  THE WALK of SameDigests, at two lists that are equal.
-/
import Derived.Test.YthgpgdpndionjaaWalkDig
import Derived.Test.YthgpgdpndionjaaWalkSame
import Derived.ChangeKeysEq
namespace Go.Proofs.Ythgpgdpndionjaa
open Go.RowKit

section
variable {P : Program} {ops : Array Oper} {C : World → Prop}
/-- A load of many cells, in a region that only reads. -/
theorem quiet_load {K : Act → Prop} {o : Oper} {a : Act} (hgd : o.guard = none) (ty : TypeId) (x : Operand) (ho : o.op = .load ty x)
    (b f : Nat) (hx : a.eval x = .pointer (some ⟨b, f, none⟩)) (cs : List Value) (d : TypeDesc) (hc : ∀ w, C w → w.rangeAt b f cs)
    (hu : P.underlying ty = some d) (hd : d.isRow = true) (hi : (P.info? ty).map (·.size) = some cs.length)
    (h : K (a.put o.dst (.agg cs.toArray))) : if Region.wanted o (yielded ops a.tmps) then o.quiet P a C K else K (a.put o.dst undef) := by
  have hw : Region.wanted o (yielded ops a.tmps) = true := by simp [Region.wanted, hgd]
  rw [if_pos hw]
  refine ⟨_, fun w hC => ?_, h⟩
  unfold Oper.quietAt execOp
  simp only [ho, hx, Instr.loadAt, Instr.sureAddr, Sem.run_bind, Sem.run_pure, Result.andThen_ok, run_loadVar_mid w b f ty cs d (hc w hC) hu hd hi]
  exact ⟨rfl, rfl⟩
end

theorem part_u8 (cs : List Value) (i : Nat) (hi : i < cs.length) (w : World) (h1 : ∀ u ∈ cs, ∃ n, u = .int .u8 n) : ∃ n, (part 5 cs.toArray i).run Try.prog w = .ok (.int .u8 n) w := by
  obtain ⟨i0, hi0, hz0, hz1, hz2⟩ := info_parts info_u8
  obtain ⟨n, hn⟩ := h1 cs[i] (List.getElem_mem hi)
  refine ⟨n, ?_⟩
  simp [part, isAgg, run_underlying Try.underlying5, hi, hn]
theorem eqItems_same (cs : List Value) (w : World) (h1 : ∀ u ∈ cs, ∃ n, u = .int .u8 n) : ∀ (is : List Nat), (∀ i ∈ is, i < cs.length) → (Op.eqItems 9999 5 1 cs.toArray cs.toArray is).run Try.prog w = .ok true w
  | [], _ => by simp [Op.eqItems]
  | i :: is, h => by
    obtain ⟨n, hp⟩ := part_u8 cs i (h i (by simp)) w h1
    simp only [Op.eqItems, Sem.run_bind, Nat.mul_one, hp, Result.andThen_ok]
    rw [run_equalIn_int w 9998 5 .u8 .u8 n n Try.underlying5]
    simp only [beq_self_eq_true, Result.andThen_ok, Bool.not_true, Bool.false_eq_true, if_false]
    exact eqItems_same cs w h1 is (fun j hj => h j (by simp [hj]))
theorem dig_cells (l : List UInt8) : ∀ u ∈ W.bc l, ∃ n, u = .int .u8 n := by
  intro u hu
  simp only [W.bc, List.mem_map] at hu
  obtain ⟨b, _, rfl⟩ := hu
  exact ⟨_, rfl⟩
theorem digest_same (l : List UInt8) (h : l.length = 16) (w : World) : (Op.equalIn 10000 57 (.agg (W.bc l).toArray) (.agg (W.bc l).toArray)).run Try.prog w = .ok true w := by
  obtain ⟨i0, hi0, hz0, hz1, hz2⟩ := info_parts info_u8
  rw [run_equalIn_array (P := Try.prog) (w := w) 9999 _ _ Try.underlying57 hi0]
  have hc : Try.prog.cellsOf 5 = 1 := by kernel_rfl
  rw [hc]
  exact eqItems_same (W.bc l) w (dig_cells l) _ (fun i hi => by rw [W.bc_length, h]; simpa using hi)

set_option maxHeartbeats 400000 in
theorem samedigests_true (F : List UInt8) (A B : Option Addr) (n c d : Nat) (L M : Nat) (w : World) (hA : Rd w L A (W.bc F)) (hB : Rd w M B (W.bc F)) (hF : F.length = n * 16) (hmx : n ≤ 4398046511104) :
    Calls Try.prog 36 #[.slice A n c, .slice B n d] w (Quiet (.bool true) w) := by
  have HA := Lib.hid hA; clear hA
  have HB := Lib.hid hB; clear hB
  have HF := Lib.hid hF; clear hF
  go_enter Try.func36, Try.ntmps36
  go_wp2
  go_loopw [5] (fun i wr => ∃ k : Nat, k ≤ n ∧ i = .int .i64 k ∧ ∃ m, wr = w.drewN m) (fun i _ => n - (intOf i).toNat)
  case atStart => exact ⟨0, by omega, rfl, 0, rfl⟩
  case round =>
    obtain ⟨k, hk, rfl, nn, rfl⟩ := hrel
    by_cases hlt : k < n
    · obtain ⟨g1, o1, rfl, _, hc1⟩ := HA.out (by rw [W.bc_length, HF.out]; omega)
      obtain ⟨g2, o2, rfl, _, hc2⟩ := HB.out (by rw [W.bc_length, HF.out]; omega)
      have hr1 := Lib.hid (rd_range (w := w) hc1 k)
      have hr2 := Lib.hid (rd_range (w := w) hc2 k)
      have hdl := dig_length HF.out hlt
      have hq := digest_same (dig F k) hdl
      have HDL := Lib.hid hdl
      clear hc1 hc2 hdl
      have hi1 : (k : Int) < (n : Int) := by omega
      go_wp2
      refine wp_region_quiet_lit (by kernel_rfl) (by kernel_rfl) ?_
      repeat (first
        | (refine wpQuiet_step (fun K hK => ?_); refine quiet_load rfl 57 (.tmp 19) rfl g1 (o1 + k * 16) rfl (W.bc (dig F k)) _ (fun w' hw' => by obtain ⟨m, rfl⟩ := hw'; exact hr1.out) Try.underlying57 rfl (by rw [size_digest, W.bc_length, HDL.out]) ?_; refine hK _ ?_; clear hK K)
        | (refine wpQuiet_step (fun K hK => ?_); refine quiet_load rfl 57 (.tmp 23) rfl g2 (o2 + k * 16) rfl (W.bc (dig F k)) _ (fun w' hw' => by obtain ⟨m, rfl⟩ := hw'; exact hr2.out) Try.underlying57 rfl (by rw [size_digest, W.bc_length, HDL.out]) ?_; refine hK _ ?_; clear hK K)
        | quiet_step (fail))
      refine wpQuiet_nil ?_
      intro _ hw'
      obtain ⟨nq, hw''⟩ := hw'
      subst hw''
      go_wp2
      go_roundw
      case rel => exact ⟨k + 1, by omega, by go_num, _, rfl⟩
      case measure => simp [intOf]; omega
    · obtain rfl : k = n := by omega
      go_wp2
      go_ret
      exact ⟨rfl, _, rfl⟩
end Go.Proofs.Ythgpgdpndionjaa
