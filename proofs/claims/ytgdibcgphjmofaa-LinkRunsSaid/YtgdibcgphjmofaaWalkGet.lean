/-
 THE WALK of wire.GetInt: it reads, and returns what 'dec' says.
-/
import Derived.Test.YtgdibcgphjmofaaWalkInt
import Derived.Test.YtgdibcgphjmofaaMem
namespace Go.Proofs.Ytgdibcgphjmofaa
set_option maxHeartbeats 1000000
open Go.RowKit
/-- What a decoder of integers returns. -/
def DecEnds (r : Int × Nat × Int) (w : World) (e : Ending) (w' : World) : Prop := e = .returned (.tuple #[.int .i64 r.1, .int .i64 (r.2.1 : Int), .int .i64 r.2.2]) ∧ w = w'
set_option maxRecDepth 100000 in
theorem getint_neg (hd : UInt8) (t : List UInt8) (b o c : Nat) (w : World) (hr : ∀ j u, (W.bc (hd :: t))[j]? = some u → w.cell? ⟨b, o + j, none⟩ = some u) (hc : t.length + 1 ≤ c) (hm : c ≤ maxLen) (hng : hd.toNat < 128) (K : Nat) (hK : (W.fx true hd).toNat = 128 + K) :
  Calls Try.prog 56 #[.slice (some ⟨b, o, none⟩) (t.length + 1) c] w (DecEnds (W.dec (hd :: t)) w) := by
 have hx : bits BinOp.xor IntKind.u8 (hd.toNat : Int) 255 = 128 + (K : Int) := by rw [show (128 + (K : Int)) = ((W.fx true hd).toNat : Int) from by omega]; exact W.xor_fl true hd
 have HK := Lib.hid hK; clear hK
 have hKb : K ≤ 127 := by have := (W.fx true hd).toNat_lt; have := HK.out; omega
 have h0 : w.cell? ⟨b, o, none⟩ = some (.int .u8 (hd.toNat : Int)) := hr 0 _ rfl
 unfold maxLen at hm
 have hKr : 128 + (K : Int) - 128 = K := by omega
 have HR := Lib.hid hr; clear hr
 by_cases hK8 : K ≤ 8
 rotate_left
 ·have he := Lib.hid (W.dec_big hd t true K (by simp; omega) HK.out (by omega))
  go_enter Try.func56, Try.ntmps56
  go_wp2
  go_ret3
  rw [he.out]
  exact ⟨rfl, rfl⟩
 by_cases hlen : K ≤ t.length
 rotate_left
 ·have he := Lib.hid (W.dec_more hd t true K (by simp; omega) HK.out (by omega) (by omega))
  go_enter Try.func56, Try.ntmps56
  go_wp2
  go_ret3
  rw [he.out]
  exact ⟨rfl, rfl⟩
 have hzero : 0 < K → ∃ b1 : UInt8, t[0]? = some b1 := fun h => ⟨t[0]'(by omega), List.getElem?_eq_getElem (by omega)⟩
 rcases Nat.eq_zero_or_pos K with hK0 | hK0
 ·subst hK0
  have hvd := W.dec_val hd t true 0 (by simp; omega) HK.out hK8 hlen (fun h => absurd h (by omega))
  rw [if_neg (by simp [W.val])] at hvd
  have HVD := Lib.hid hvd; clear hvd
  have e0 : wrap64 (bits BinOp.xor IntKind.u64 IntKind.u64.max 0) = -1 := W.wrap_not 0 (by omega)
  by_cases k1 : c = 1
  ·subst k1
   go_enter Try.func56, Try.ntmps56
   go_wp2
   refine wp_loop_rounds 1 ?_
   rw [rounds_succ]
   go_wp2
   go_ret3
   rw [HVD.out]
   exact ⟨rfl, rfl⟩
  ·go_enter Try.func56, Try.ntmps56
   go_wp2
   refine wp_loop_rounds 1 ?_
   rw [rounds_succ]
   go_wp2
   go_ret3
   rw [HVD.out]
   exact ⟨rfl, rfl⟩
 obtain ⟨b1, k0⟩ := hzero hK0
 clear hzero
 have h1 : w.cell? ⟨b, o + 1, none⟩ = some (.int .u8 (b1.toNat : Int)) := HR.out 1 _ (by simp [W.bc, W.bcell, k0])
 have k2 := Lib.hid k0; clear k0
 have k1 : ¬ c = 1 := by omega
 obtain ⟨y, hy⟩ : ∃ y : Nat, y = (W.fx true b1).toNat := ⟨_, rfl⟩
 have hx1 : bits BinOp.xor IntKind.u8 (b1.toNat : Int) 255 = (y : Int) := by rw [hy]; exact W.xor_fl true b1
 have HY := Lib.hid hy; clear hy
 rcases Nat.eq_zero_or_pos y with hy0 | hy0
 ·subst hy0
  have he := Lib.hid (W.dec_zero hd t true K (by simp; omega) HK.out hK8 hlen hK0 b1 k2.out HY.out.symm)
  go_enter Try.func56, Try.ntmps56
  go_wp2
  go_ret3
  rw [he.out]
  exact ⟨rfl, rfl⟩
 have hnz : ((y : Int) == 0) = false := by simp; omega
 go_enter Try.func56, Try.ntmps56
 go_wp2
 go_loop [48, 7] (fun ix m => ∃ i : Nat, i ≤ K ∧ ix = .int .i64 i ∧ m = .int .u64 (W.val ((t.take i).map (W.fx true)) : Nat)) (fun ix _ => K - (intOf ix).toNat)
 case atStart => exact ⟨0, by omega, rfl, rfl⟩
 case round =>
  obtain ⟨i, hi, rfl, rfl⟩ := hrel
  by_cases hlt : i < K
  ·obtain ⟨b2, k3⟩ : ∃ b2 : UInt8, t[i]? = some b2 := ⟨t[i]'(by omega), List.getElem?_eq_getElem (by omega)⟩
   have hcell : w.cell? ⟨b, o + 1 + i, none⟩ = some (.int .u8 (b2.toNat : Int)) := by
    have := HR.out (i + 1) (.int .u8 (b2.toNat : Int)) (by simp [W.bc, W.bcell, k3])
    rwa [show o + (i + 1) = o + 1 + i from by omega] at this
   obtain ⟨z, hz⟩ : ∃ z : Nat, z = (W.fx true b2).toNat := ⟨_, rfl⟩
   have hzb : z < 256 := by rw [hz]; exact (W.fx true b2).toNat_lt
   have hxz : bits BinOp.xor IntKind.u8 (b2.toNat : Int) 255 = (z : Int) := by rw [hz]; exact W.xor_fl true b2
   have hvs := W.val_step t true i b2 k3
   rw [← hz] at hvs
   have hvl := W.val_take_lt t true i
   obtain ⟨m, hm⟩ : ∃ m : Nat, m = W.val ((t.take i).map (W.fx true)) := ⟨_, rfl⟩
   rw [← hm] at hvs hvl
   have hmb : m ≤ 72057594037927935 := by
    have : 256 ^ i ≤ 256 ^ 7 := Nat.pow_le_pow_right (by omega) (by omega)
    omega
   have hor := W.or_step m z hmb hzb
   have HVS := Lib.hid hvs; clear hvs
   have HZ := Lib.hid hz; clear hz hvl
   rw [← hm]
   have HM := Lib.hid hm; clear hm
   go_wp2
   go_round
   case rel => exact ⟨i + 1, by omega, by go_num, by rw [HVS.out]; go_num⟩
   case measure => simp [intOf]; omega
  ·obtain rfl : i = K := by omega
   have hvd := W.dec_val hd t true i (by simp; omega) HK.out hK8 hlen (fun _ => ⟨b1, k2.out, by rw [← HY.out]; exact hy0⟩)
   have hvl := W.val_take_lt t true i
   obtain ⟨V, hV⟩ : ∃ V : Nat, V = W.val ((t.take i).map (W.fx true)) := ⟨_, rfl⟩
   rw [← hV] at hvd hvl
   rw [← hV]
   have hV64 : V ≤ 18446744073709551615 := by
    have : 256 ^ i ≤ 256 ^ 8 := Nat.pow_le_pow_right (by omega) (by omega)
    omega
   have HVD := Lib.hid hvd; clear hvd hvl
   have HV := Lib.hid hV; clear hV
   go_wp2
   ·have h63 : 0 < (V : Int) / 9223372036854775808 := by assumption
    go_ret3
    rw [HVD.out, if_pos (by omega)]
    exact ⟨rfl, rfl⟩
   ·have h63 : (V : Int) / 9223372036854775808 ≤ 0 := by assumption
    go_ret3
    rw [HVD.out, if_neg (by omega)]
    have e := W.wrap_not V (by omega)
    unfold DecEnds
    simp only [Array.getD_eq_getD_getElem?, List.getElem?_toArray, List.getElem?_cons_succ, List.getElem?_cons_zero, Option.getD_some]
    (try rw [e])
    refine ⟨?_, ?_⟩ <;> first | rfl | trivial
set_option maxRecDepth 100000 in
theorem getint_pos (hd : UInt8) (t : List UInt8) (b o c : Nat) (w : World) (hr : ∀ j u, (W.bc (hd :: t))[j]? = some u → w.cell? ⟨b, o + j, none⟩ = some u) (hc : t.length + 1 ≤ c) (hm : c ≤ maxLen) (hng : ¬ hd.toNat < 128) (K : Nat) (hK : (W.fx false hd).toNat = 128 + K) :
  Calls Try.prog 56 #[.slice (some ⟨b, o, none⟩) (t.length + 1) c] w (DecEnds (W.dec (hd :: t)) w) := by
 have hx : bits BinOp.xor IntKind.u8 (hd.toNat : Int) 0 = 128 + (K : Int) := by rw [show (128 + (K : Int)) = ((W.fx false hd).toNat : Int) from by omega]; exact W.xor_fl false hd
 have HK := Lib.hid hK; clear hK
 have hKb : K ≤ 127 := by have := (W.fx false hd).toNat_lt; have := HK.out; omega
 have h0 : w.cell? ⟨b, o, none⟩ = some (.int .u8 (hd.toNat : Int)) := hr 0 _ rfl
 unfold maxLen at hm
 have hKr : 128 + (K : Int) - 128 = K := by omega
 have HR := Lib.hid hr; clear hr
 by_cases hK8 : K ≤ 8
 rotate_left
 ·have he := Lib.hid (W.dec_big hd t false K (by simp; omega) HK.out (by omega))
  go_enter Try.func56, Try.ntmps56
  go_wp2
  go_ret3
  rw [he.out]
  exact ⟨rfl, rfl⟩
 by_cases hlen : K ≤ t.length
 rotate_left
 ·have he := Lib.hid (W.dec_more hd t false K (by simp; omega) HK.out (by omega) (by omega))
  go_enter Try.func56, Try.ntmps56
  go_wp2
  go_ret3
  rw [he.out]
  exact ⟨rfl, rfl⟩
 have hzero : 0 < K → ∃ b1 : UInt8, t[0]? = some b1 := fun h => ⟨t[0]'(by omega), List.getElem?_eq_getElem (by omega)⟩
 rcases Nat.eq_zero_or_pos K with hK0 | hK0
 ·subst hK0
  have hvd := W.dec_val hd t false 0 (by simp; omega) HK.out hK8 hlen (fun h => absurd h (by omega))
  rw [if_neg (by simp [W.val])] at hvd
  have HVD := Lib.hid hvd; clear hvd
  have e0 : wrap64 (bits BinOp.xor IntKind.u64 IntKind.u64.max 0) = -1 := W.wrap_not 0 (by omega)
  by_cases k1 : c = 1
  ·subst k1
   go_enter Try.func56, Try.ntmps56
   go_wp2
   refine wp_loop_rounds 1 ?_
   rw [rounds_succ]
   go_wp2
   go_ret3
   rw [HVD.out]
   exact ⟨rfl, rfl⟩
  ·go_enter Try.func56, Try.ntmps56
   go_wp2
   refine wp_loop_rounds 1 ?_
   rw [rounds_succ]
   go_wp2
   go_ret3
   rw [HVD.out]
   exact ⟨rfl, rfl⟩
 obtain ⟨b1, k0⟩ := hzero hK0
 clear hzero
 have h1 : w.cell? ⟨b, o + 1, none⟩ = some (.int .u8 (b1.toNat : Int)) := HR.out 1 _ (by simp [W.bc, W.bcell, k0])
 have k2 := Lib.hid k0; clear k0
 have k1 : ¬ c = 1 := by omega
 obtain ⟨y, hy⟩ : ∃ y : Nat, y = (W.fx false b1).toNat := ⟨_, rfl⟩
 have hx1 : bits BinOp.xor IntKind.u8 (b1.toNat : Int) 0 = (y : Int) := by rw [hy]; exact W.xor_fl false b1
 have HY := Lib.hid hy; clear hy
 rcases Nat.eq_zero_or_pos y with hy0 | hy0
 ·subst hy0
  have he := Lib.hid (W.dec_zero hd t false K (by simp; omega) HK.out hK8 hlen hK0 b1 k2.out HY.out.symm)
  go_enter Try.func56, Try.ntmps56
  go_wp2
  go_ret3
  rw [he.out]
  exact ⟨rfl, rfl⟩
 have hnz : ((y : Int) == 0) = false := by simp; omega
 go_enter Try.func56, Try.ntmps56
 go_wp2
 go_loop [48, 7] (fun ix m => ∃ i : Nat, i ≤ K ∧ ix = .int .i64 i ∧ m = .int .u64 (W.val ((t.take i).map (W.fx false)) : Nat)) (fun ix _ => K - (intOf ix).toNat)
 case atStart => exact ⟨0, by omega, rfl, rfl⟩
 case round =>
  obtain ⟨i, hi, rfl, rfl⟩ := hrel
  by_cases hlt : i < K
  ·obtain ⟨b2, k3⟩ : ∃ b2 : UInt8, t[i]? = some b2 := ⟨t[i]'(by omega), List.getElem?_eq_getElem (by omega)⟩
   have hcell : w.cell? ⟨b, o + 1 + i, none⟩ = some (.int .u8 (b2.toNat : Int)) := by
    have := HR.out (i + 1) (.int .u8 (b2.toNat : Int)) (by simp [W.bc, W.bcell, k3])
    rwa [show o + (i + 1) = o + 1 + i from by omega] at this
   obtain ⟨z, hz⟩ : ∃ z : Nat, z = (W.fx false b2).toNat := ⟨_, rfl⟩
   have hzb : z < 256 := by rw [hz]; exact (W.fx false b2).toNat_lt
   have hxz : bits BinOp.xor IntKind.u8 (b2.toNat : Int) 0 = (z : Int) := by rw [hz]; exact W.xor_fl false b2
   have hvs := W.val_step t false i b2 k3
   rw [← hz] at hvs
   have hvl := W.val_take_lt t false i
   obtain ⟨m, hm⟩ : ∃ m : Nat, m = W.val ((t.take i).map (W.fx false)) := ⟨_, rfl⟩
   rw [← hm] at hvs hvl
   have hmb : m ≤ 72057594037927935 := by
    have : 256 ^ i ≤ 256 ^ 7 := Nat.pow_le_pow_right (by omega) (by omega)
    omega
   have hor := W.or_step m z hmb hzb
   have HVS := Lib.hid hvs; clear hvs
   have HZ := Lib.hid hz; clear hz hvl
   rw [← hm]
   have HM := Lib.hid hm; clear hm
   go_wp2
   go_round
   case rel => exact ⟨i + 1, by omega, by go_num, by rw [HVS.out]; go_num⟩
   case measure => simp [intOf]; omega
  ·obtain rfl : i = K := by omega
   have hvd := W.dec_val hd t false i (by simp; omega) HK.out hK8 hlen (fun _ => ⟨b1, k2.out, by rw [← HY.out]; exact hy0⟩)
   have hvl := W.val_take_lt t false i
   obtain ⟨V, hV⟩ : ∃ V : Nat, V = W.val ((t.take i).map (W.fx false)) := ⟨_, rfl⟩
   rw [← hV] at hvd hvl
   rw [← hV]
   have hV64 : V ≤ 18446744073709551615 := by
    have : 256 ^ i ≤ 256 ^ 8 := Nat.pow_le_pow_right (by omega) (by omega)
    omega
   have HVD := Lib.hid hvd; clear hvd hvl
   have HV := Lib.hid hV; clear hV
   go_wp2
   ·have h63 : 0 < (V : Int) / 9223372036854775808 := by assumption
    go_ret3
    rw [HVD.out, if_pos (by omega)]
    exact ⟨rfl, rfl⟩
   ·have h63 : (V : Int) / 9223372036854775808 ≤ 0 := by assumption
    go_ret3
    rw [HVD.out, if_neg (by omega)]
    have e := W.wrap_low V (by omega)
    unfold DecEnds
    simp only [Array.getD_eq_getD_getElem?, List.getElem?_toArray, List.getElem?_cons_succ, List.getElem?_cons_zero, Option.getD_some]
    (try rw [e])
    refine ⟨?_, ?_⟩ <;> first | rfl | trivial
/-- The contract of wire.GetInt. -/
theorem getint_any (l : List UInt8) (A : Option Addr) (n c : Nat) (B : Nat) (w : World) (hr : Rd w B A (W.bc l)) (hn : n = l.length) (hc : n ≤ c) (hm : c ≤ maxLen) :
  Calls Try.prog 56 #[.slice A n c] w (DecEnds (W.dec l) w) := by
 subst hn
 cases l with
 | nil =>
  go_enter Try.func56, Try.ntmps56
  go_wp2
  go_ret3
  exact ⟨rfl, rfl⟩
 | cons hd t =>
  obtain ⟨b, o, rfl, _, hcell⟩ := hr (by simp)
  have hlt := hd.toNat_lt
  by_cases hng : hd.toNat < 128
  ·exact getint_neg hd t b o c w hcell hc hm hng ((W.fx true hd).toNat - 128) (by rw [W.fx_toNat]; simp; omega)
  ·exact getint_pos hd t b o c w hcell hc hm hng ((W.fx false hd).toNat - 128) (by rw [W.fx_toNat]; simp; omega)
end Go.Proofs.Ytgdibcgphjmofaa
