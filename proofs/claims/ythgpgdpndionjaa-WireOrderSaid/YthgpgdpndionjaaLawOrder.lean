/-
  THE WALK of the law WireOrder.
-/
import Derived.Test.YthgpgdpndionjaaLawIRT
import Derived.Test.YthgpgdpndionjaaPlainY
import Derived.Test.YthgpgdpndionjaaQuietB
import Derived.Deep.RegionWith
import Derived.Deep.DeepCutAuto
import Derived.Lib.Strings
namespace Go.Proofs.Ythgpgdpndionjaa
open Go.RowKit

/-- The bytes of an encoding, as a string. -/
def es (n : Int) : ByteArray := ⟨(W.enc n).toArray⟩
theorem es_toList (n : Int) : (es n).toList = W.enc n := by rw [ByteArray.toList_eq]; rfl
theorem es_size (n : Int) : (es n).size = (W.enc n).length := by show (W.enc n).toArray.size = _; simp
theorem es_take (n : Int) (k : Nat) : ((es n).extract 0 k).toList = (W.enc n).take k := by
  rw [ByteArray.toList_eq, Lib.extract_data]
  simp [es]
theorem enc_beq {m n : Int} (hm : W.Is64 m) (hn : W.Is64 n) : (W.enc m == W.enc n) = (m == n) := by
  by_cases e : m = n
  · subst e; rw [beq_self_eq_true, beq_self_eq_true]
  · rw [beq_eq_false_iff_ne.2 e, beq_eq_false_iff_ne.2 (fun h => e (W.enc_inj hm hn h))]
theorem enc_pre {m n : Int} (hm : W.Is64 m) (hn : W.Is64 n) : ((W.enc m).take (min (W.enc m).length (W.enc n).length) == (W.enc n).take (min (W.enc m).length (W.enc n).length)) = (m == n) := by
  by_cases e : m = n
  · subst e; rw [beq_self_eq_true, beq_self_eq_true]
  · rw [beq_eq_false_iff_ne.2 e, beq_eq_false_iff_ne.2 (fun h => e (W.enc_prefix hm hn h))]

set_option maxRecDepth 100000 in
set_option maxHeartbeats 1000000 in
theorem law_order (m n : Int) (w : World) (hm : W.Is64 m) (hn : W.Is64 n) :
    Calls Try.prog 5 #[.int .i64 m, .int .i64 n] w fun e w' => e = .returned (.bool true) ∧ Below w.heap.size w w' := by
  have hpm : 0 < (W.enc m).length := (W.enc_le m).1
  have hpn : 0 < (W.enc n).length := (W.enc_le n).1
  go_enter Try.func5, Try.ntmps5
  go_upto_region 1 with fail
  go_cut [5, 6] (fun a b wx => a = .string (es m) ∧ b = .string (es n) ∧ Below w.heap.size w wx)
  case first =>
    go_region_with (first
      | (go_at_call_of 14 m; refine (wint_any m _ hm).mono ?_; rintro e w1 ⟨v1, rfl, hown1, hb1⟩; obtain ⟨g1, c1, rfl, h11, h12, _, _⟩ := own_pos hown1 hpm; have cv1 := run_string_rd (Rd.of_own hown1) _ c1 rfl; have hB1 : Below w.heap.size w w1 := ⟨hb1.os, hb1.tape, hb1.output, hb1.size, hb1.block⟩)
      | (go_at_call_of 14 n; refine (wint_any n _ hn).mono ?_; rintro e w2 ⟨v2, rfl, hown2, hb2⟩; obtain ⟨g2, c2, rfl, h21, h22, _, _⟩ := own_pos hown2 hpn; have cv2 := run_string_rd (Rd.of_own hown2) _ c2 rfl; have cv12 := run_string_rd ((Rd.of_own hown1).below hb2 (Nat.le_refl _)) _ c1 rfl; have hB2 := Bl hB1 hb2))
    all_goals
      go_wp2_with fail
      go_meet
      exact ⟨rfl, rfl, by assumption⟩
  case rest =>
    obtain ⟨rfl, rfl, hB⟩ := hcut
    have htm := es_toList m
    have htn := es_toList n
    have hsm := es_size m
    have hsn := es_size n
    have ht1 := es_take m
    have ht2 := es_take n
    have hless := W.enc_less hm hn
    have h1 := enc_beq hm hn
    have hpre := enc_pre hm hn
    have hsan : ∀ w1 : World, Bel w w1 → Calls Try.prog 12 #[] w1 fun e w'' => e = .returned (.bool true) ∧ Bel w w'' := fun w1 h => sanity_step w w1 h
    have HS := Lib.hid hsan; clear hsan
    by_cases hll : (W.enc m).length ≤ (W.enc n).length
    · rw [Nat.min_eq_left hll, List.take_of_length_le (Nat.le_refl (W.enc m).length)] at hpre
      go_wp2_with fail
      refine wp_region_quiet_bel w hB (by kernel_rfl) (by kernel_rfl) ?_
      repeat
        (refine wpQuiet_step (fun K hK => ?_)
         go_simp
         first
         | (refine hK _ ?_; clear hK K)
         | (refine ⟨.bool true, HS.out, hK _ ?_⟩; clear hK K)
         | (refine ⟨_, fun _ _ => rfl, hK _ ?_⟩; clear hK K))
      refine wpQuiet_nil ?_
      intro w5 hw5
      go_wp2
      go_ret
      exact ⟨rfl, hw5.out⟩
    · have hl2 : (W.enc n).length ≤ (W.enc m).length := by omega
      rw [Nat.min_eq_right hl2, List.take_of_length_le (Nat.le_refl (W.enc n).length)] at hpre

      go_wp2_with fail
      refine wp_region_quiet_bel w hB (by kernel_rfl) (by kernel_rfl) ?_
      repeat
        (refine wpQuiet_step (fun K hK => ?_)
         go_simp
         first
         | (refine hK _ ?_; clear hK K)
         | (refine ⟨.bool true, HS.out, hK _ ?_⟩; clear hK K)
         | (refine ⟨_, fun _ _ => rfl, hK _ ?_⟩; clear hK K))
      refine wpQuiet_nil ?_
      intro w5 hw5
      go_wp2
      go_ret
      exact ⟨rfl, hw5.out⟩
end Go.Proofs.Ythgpgdpndionjaa
