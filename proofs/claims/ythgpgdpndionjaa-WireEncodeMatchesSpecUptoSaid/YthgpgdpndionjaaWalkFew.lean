/-
  THE WALK of the law's few.
-/
import Derived.Test.YthgpgdpndionjaaWalkAppS
import Derived.Test.YthgpgdpndionjaaWalkEnc
namespace Go.Proofs.Ythgpgdpndionjaa
open Go.RowKit

def tot (l : List ByteArray) : Nat := (l.map ByteArray.size).sum
theorem tot_take (l : List ByteArray) (k : Nat) (x : ByteArray) (h : l[k]? = some x) : tot (l.take (k + 1)) = tot (l.take k) + x.size := by
  unfold tot
  rw [List.take_add_one, h, List.map_append, List.sum_append]
  simp
theorem tot_le : ∀ (l : List ByteArray) (k : Nat), tot (l.take k) ≤ tot l
  | [], k => by simp [tot]
  | x :: r, 0 => by simp [tot]
  | x :: r, k + 1 => by
    have := tot_le r k
    unfold tot at *
    simp only [List.take_succ_cons, List.map_cons, List.sum_cons]
    omega
theorem tot_bound (l : List ByteArray) (B : Nat) (h : ∀ x ∈ l, x.size ≤ B) : tot l ≤ l.length * B := by
  induction l with
  | nil => simp [tot]
  | cons x r ih =>
    have h1 := ih (fun y hy => h y (by simp [hy]))
    have h2 := h x (by simp)
    unfold tot at *
    simp only [List.map_cons, List.sum_cons, List.length_cons, Nat.succ_mul]
    omega

set_option maxHeartbeats 400000 in
theorem few_any (l : List ByteArray) (A : Option Addr) (n c L : Nat) (w : World) (hr : Rd w L A (sc l)) (hn : n = l.length) (hs : l.length + tot l ≤ 4611686018427387904) :
    Calls Try.prog 11 #[.slice A n c] w fun e w' => e = .returned (.bool (decide (l.length + tot l ≤ 2000))) ∧ w = w' := by
  subst hn
  have HR := Lib.hid hr; clear hr
  go_enter Try.func11, Try.ntmps11
  go_wp2_with fail
  go_loop [10, 3] (fun ix m => ∃ k : Nat, k ≤ l.length ∧ ix = .int .i64 k ∧ m = .int .i64 ((l.length + tot (l.take k) : Nat) : Int)) (fun ix _ => l.length - (intOf ix).toNat)
  case atStart => exact ⟨0, by omega, rfl, by simp [tot]⟩
  case round =>
    obtain ⟨k, hk, rfl, rfl⟩ := hrel
    by_cases hlt : k < l.length
    · obtain ⟨x, hx⟩ : ∃ x, l[k]? = some x := ⟨_, List.getElem?_eq_getElem hlt⟩
      obtain ⟨b, o, rfl, _, hcell⟩ := HR.out (by simp [sc]; omega)
      have hld : w.cell? ⟨b, o + k, none⟩ = some (.string x) := hcell k _ (by simp [sc, hx])
      have h1 := tot_take l k x hx
      have h2 := tot_le l (k + 1)
      obtain ⟨T, hT⟩ : ∃ T, T = l.length + tot (l.take k) := ⟨_, rfl⟩
      have hb : T + x.size ≤ 4611686018427387904 := by omega
      have H1 := Lib.hid (show l.length + tot (l.take (k + 1)) = T + x.size from by omega)
      rw [← hT]
      clear h1 h2 hx hT hcell
      go_wp2_with fail
      go_round
      case rel => exact ⟨k + 1, by omega, by go_num, by rw [H1.out]; go_num⟩
      case measure => simp [intOf]; omega
    · obtain rfl : k = l.length := by omega
      rw [List.take_length]
      obtain ⟨T, hT⟩ : ∃ T, T = l.length + tot l := ⟨_, rfl⟩
      rw [← hT]
      rw [← hT] at hs
      have HT := Lib.hid hT; clear hT
      go_wp2_with fail
      go_ret
      refine ⟨?_, rfl⟩
      rw [← HT.out]
      have h2 : ((T : Int) ≤ 2000) = (T ≤ 2000) := by rw [eq_iff_iff]; omega
      simp only [h2]
      rfl
end Go.Proofs.Ythgpgdpndionjaa
