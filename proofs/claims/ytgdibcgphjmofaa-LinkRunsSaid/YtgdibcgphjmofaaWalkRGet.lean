/-
 THE WALK of the reference's GetInt.
-/
import Derived.Test.YtgdibcgphjmofaaWalkRInt
import Derived.Test.YtgdibcgphjmofaaWalkSame
import Derived.Test.YtgdibcgphjmofaaPlainY
import Derived.Test.YtgdibcgphjmofaaWalkCnt
import Derived.Test.YtgdibcgphjmofaaWalkSanL
import Derived.Deep.RegionWith
namespace Go.Proofs.Ytgdibcgphjmofaa
set_option maxHeartbeats 1000000
open Go.RowKit
/-- What a decoder of integers returns that makes memory. -/
def DecEndsB (r : Int × Nat × Int) (w : World) (e : Ending) (w' : World) : Prop := e = .returned (.tuple #[.int .i64 r.1, .int .i64 (r.2.1 : Int), .int .i64 r.2.2]) ∧ Below w.heap.size w w'
theorem dec_form (hd : UInt8) (t : List UInt8) (g : Bool) (K : Nat) (hg : g = decide (hd.toNat < 128)) (hK : (W.fx g hd).toNat = 128 + K) (h8 : K ≤ 8) (hl : K ≤ t.length) (hb : 9223372036854775808 ≤ W.val ((t.take K).map (W.fx g))) : W.dec (hd :: t) = (0, 0, 2) := by
 rw [W.dec_cons hd t g K hg hK, if_neg (by omega), if_neg (by omega), if_pos (.inr hb)]
theorem val_mono (t : List UInt8) (g : Bool) (i : Nat) : ∀ d, i + d ≤ t.length → W.val ((t.take i).map (W.fx g)) * 256 ^ d ≤ W.val ((t.take (i + d)).map (W.fx g))
 | 0, _ => by simp
 | d + 1, h => by
  have ih := val_mono t g i d (by omega)
  have hb : t[i + d]? = some (t[i + d]'(by omega)) := List.getElem?_eq_getElem (by omega)
  have := W.val_step t g (i + d) _ hb
  rw [show i + (d + 1) = i + d + 1 from by omega, this, Nat.pow_succ, ← Nat.mul_assoc]
  omega
/-- What Same tells of the candidate. -/
theorem dec_same (hd : UInt8) (t : List UInt8) (g : Bool) (K : Nat) (hg : g = decide (hd.toNat < 128)) (hK : (W.fx g hd).toNat = 128 + K) (h8 : K ≤ 8) (hl : K ≤ t.length) (V : Nat) (hV : V = W.val ((t.take K).map (W.fx g))) (hb : V < 9223372036854775808) (n : Int) (hn : n = if g then -1 - (V : Int) else (V : Int)) :
  W.dec (hd :: t) = if W.enc n = (hd :: t).take (K + 1) then (n, K + 1, 0) else (0, 0, 2) := by
 have h64 : W.Is64 n := by rw [hn]; unfold W.Is64; cases g <;> simp <;> omega
 by_cases he : W.enc n = (hd :: t).take (K + 1)
 ·rw [if_pos he]
  have h1 := W.dec_enc h64 ((hd :: t).drop (K + 1))
  rw [he, List.take_append_drop] at h1
  rw [h1, List.length_take]
  simp
  omega
 ·rw [if_neg he]
  have h2 := W.dec_cons hd t g K hg hK
  rw [if_neg (by omega), if_neg (by omega), ← hV] at h2
  by_cases hc : (0 < K ∧ V < 256 ^ (K - 1)) ∨ 9223372036854775808 ≤ V
  ·rw [h2, if_pos hc]
  ·rw [if_neg hc, ← hn] at h2
   exact absurd (W.dec_ok h2).2.2.1.symm he
set_option maxRecDepth 100000 in
theorem rgetint_neg (hd : UInt8) (t : List UInt8) (b o c : Nat) (w : World) (hr : ∀ j u, (W.bc (hd :: t))[j]? = some u → w.cell? ⟨b, o + j, none⟩ = some u) (hbs : b < w.heap.size) (hc : t.length + 1 ≤ c) (_hm : c ≤ maxLen) (hng : hd.toNat < 128) (K : Nat) (hK : (W.fx true hd).toNat = 128 + K) :
  Calls Try.prog 55 #[.slice (some ⟨b, o, none⟩) (t.length + 1) c] w (DecEndsB (W.dec (hd :: t)) w) := by
 have HK := Lib.hid hK; clear hK
 have hKb : K ≤ 127 := by have := (W.fx true hd).toNat_lt; have := HK.out; omega
 have hkk : 127 - (hd.toNat : Int) = (K : Int) := by have := HK.out; rw [W.fx_toNat] at this; simp at this; omega
 have hhb := hd.toNat_lt
 have h0 : w.cell? ⟨b, o, none⟩ = some (.int .u8 (hd.toNat : Int)) := hr 0 _ rfl
 unfold maxLen at _hm
 have HR := Lib.hid hr; clear hr
 by_cases hK8 : K ≤ 8
 rotate_left
 ·have he := Lib.hid (W.dec_big hd t true K (by simp; omega) HK.out (by omega))
  go_enter Try.func55, Try.ntmps55
  go_wp2_with fail
  go_ret3
  rw [he.out]
  exact ⟨rfl, Below.refl _ _⟩
 by_cases hlen : K ≤ t.length
 rotate_left
 ·have he := Lib.hid (W.dec_more hd t true K (by simp; omega) HK.out (by omega) (by omega))
  go_enter Try.func55, Try.ntmps55
  go_wp2_with fail
  go_ret3
  rw [he.out]
  exact ⟨rfl, Below.refl _ _⟩
 go_enter Try.func55, Try.ntmps55
 go_wp2_with fail
 go_loop [8, 7, 9] (fun ix m _ => ∃ i : Nat, i ≤ K ∧ ix = .int .i64 ((i + 1 : Nat) : Int) ∧ m = .int .i64 (W.val ((t.take i).map (W.fx true)) : Nat) ∧ Hid (W.val ((t.take i).map (W.fx true)) < 9223372036854775808)) (fun ix _ _ => K + 1 - (intOf ix).toNat)
 case atStart => exact ⟨0, by omega, rfl, rfl, by simp [W.val, Hid]⟩
 case round =>
  obtain ⟨i, hi, rfl, rfl, HV⟩ := hrel
  by_cases hlt : i < K
  ·obtain ⟨b2, k1⟩ : ∃ b2 : UInt8, t[i]? = some b2 := ⟨t[i]'(by omega), List.getElem?_eq_getElem (by omega)⟩
   have hcell : w.cell? ⟨b, o + (i + 1), none⟩ = some (.int .u8 (b2.toNat : Int)) := HR.out (i + 1) (.int .u8 (b2.toNat : Int)) (by simp [W.bc, W.bcell, k1])
   have hb2b := b2.toNat_lt
   have hvs := W.val_step t true i b2 k1
   obtain ⟨z, hz⟩ : ∃ z : Nat, z = (W.fx true b2).toNat := ⟨_, rfl⟩
   have hzb : z < 256 := by rw [hz]; exact (W.fx true b2).toNat_lt
   have hzz : (255 : Int) - (b2.toNat : Int) = (z : Int) := by rw [hz, W.fx_toNat]; simp; try omega
   have hmono := val_mono t true i (K - i) (by omega)
   rw [show i + (K - i) = K from by omega] at hmono
   rw [← hz] at hvs
   obtain ⟨m, hm2⟩ : ∃ m : Nat, m = W.val ((t.take i).map (W.fx true)) := ⟨_, rfl⟩
   have hmb : m ≤ 9223372036854775807 := by rw [hm2]; have := HV.out; omega
   rw [← hm2] at hvs hmono
   have HVS := Lib.hid hvs; clear hvs
   have HZ := Lib.hid hz; clear hz
   have HMO := Lib.hid hmono; clear hmono
   rw [← hm2]
   have HM := Lib.hid hm2; clear hm2 HV
   by_cases hbig : m ≤ 36028797018963967
   ·go_wp2_with fail
    go_round
    case rel => exact ⟨i + 1, by omega, by go_num, by rw [HVS.out]; go_num, by rw [HVS.out]; show _ < _; omega⟩
    case measure => simp [intOf]; omega
   ·have h256 : 256 ^ 1 ≤ 256 ^ (K - i) := Nat.pow_le_pow_right (by omega) (by omega)
    have hbg : 9223372036854775808 ≤ W.val ((t.take K).map (W.fx true)) := by
     have h1 := HMO.out
     have h2 : m * 256 ≤ m * 256 ^ (K - i) := Nat.mul_le_mul_left m (by simpa using h256)
     omega
    have he := Lib.hid (dec_form hd t true K (by simp; omega) HK.out hK8 hlen hbg)
    clear hbg h256
    go_wp2_with fail
    go_ret3
    rw [he.out]
    exact ⟨rfl, Below.refl _ _⟩
  ·obtain rfl : i = K := by omega
   obtain ⟨V, hV⟩ : ∃ V : Nat, V = W.val ((t.take i).map (W.fx true)) := ⟨_, rfl⟩
   have hVb : V ≤ 9223372036854775807 := by rw [hV]; have := HV.out; omega
   have hds := dec_same hd t true i (by simp; omega) HK.out hK8 hlen V hV (by omega) _ rfl
   rw [← hV]
   have HDS := Lib.hid hds; clear hds hV HV
   simp only [if_true] at HDS
   have h64 : W.Is64 (-1 - (V : Int)) := by unfold W.Is64; omega
   have hcut : Rd w w.heap.size (some ⟨b, o, none⟩) (W.bc ((hd :: t).take (i + 1))) := by
    rw [← W.bc_take]
    exact Rd.take (fun _ => ⟨b, o, rfl, hbs, HR.out⟩) (i + 1)
   have HCUT := Lib.hid hcut; clear hcut
   have hpe := (W.enc_le (-1 - (V : Int))).1
   have htl : ((hd :: t).take (i + 1)).length = i + 1 := by rw [List.length_take]; simp; omega
   have HTL := Lib.hid htl; clear htl
   have hs1 : (i : Int) + 1 ≤ (c : Int) := by omega
   have hs2 : (0 : Int) ≤ (i : Int) + 1 := by omega
   have hwr : IntKind.i64.wrap ((i : Int) + 1) = (i : Int) + 1 := by rw [IntKind.wrap_i64]; omega
   have hsm : ∀ (A1 : Option Addr) (c1 : Nat) (w1 : World) (r : Bool), r = decide (W.enc (-1 - (V : Int)) = (hd :: t).take (i + 1)) → Rd w1 w1.heap.size A1 (W.bc (W.enc (-1 - (V : Int)))) → Below w.heap.size w w1 →
     Calls Try.prog 29 #[.slice A1 (W.enc (-1 - (V : Int))).length c1, .slice (some ⟨b, o, none⟩) (i + 1) c] w1 (Quiet (.bool r) w1) := by
    intro A1 c1 w1 r hr1 hrd k0
    rw [hr1]
    exact same_any (W.enc (-1 - (V : Int))) ((hd :: t).take (i + 1)) _ _ _ _ _ _ _ _ _ hrd (HCUT.out.below k0 (Nat.le_refl _)) rfl HTL.out.symm (by have := (W.enc_le (-1 - (V : Int))).2; unfold maxLen; omega)
   have HSM := Lib.hid hsm; clear hsm
   by_cases hE : W.enc (-1 - (V : Int)) = (hd :: t).take (i + 1)
   ·have hfin := HDS.out
    rw [if_pos hE] at hfin
    have HE := Lib.hid (show true = decide (W.enc (-1 - (V : Int)) = (hd :: t).take (i + 1)) from (decide_eq_true hE).symm)
    have HFIN := Lib.hid hfin; clear hfin hE HDS
    go_wp2_with fail
    go_region_with (first
     | (go_at_call 45; refine (rint_any _ _ h64).mono ?_; rintro e w1 ⟨v1, rfl, hown1, k0⟩; replace k0 := Bl (Below.refl w.heap.size w).drew k0; obtain ⟨g1, c1, rfl, h11, h12, _, _⟩ := own_pos hown1 hpe)
     | (go_at_call 29; refine (HSM.out _ _ _ _ HE.out (Rd.of_own (by assumption)) (by assumption)).mono ?_; rintro e w2 ⟨rfl, nq, rfl⟩))
    all_goals
     go_wp2_with fail
     go_ret3
     rw [HFIN.out]
     have hb := ‹Below w.heap.size w _›
     exact ⟨rfl, ⟨hb.os, hb.tape, hb.output, hb.size, hb.block⟩⟩
   ·have hfin := HDS.out
    rw [if_neg hE] at hfin
    have HE := Lib.hid (show false = decide (W.enc (-1 - (V : Int)) = (hd :: t).take (i + 1)) from (decide_eq_false hE).symm)
    have HFIN := Lib.hid hfin; clear hfin hE HDS
    go_wp2_with fail
    go_region_with (first
     | (go_at_call 45; refine (rint_any _ _ h64).mono ?_; rintro e w1 ⟨v1, rfl, hown1, k0⟩; replace k0 := Bl (Below.refl w.heap.size w).drew k0; obtain ⟨g1, c1, rfl, h11, h12, _, _⟩ := own_pos hown1 hpe)
     | (go_at_call 29; refine (HSM.out _ _ _ _ HE.out (Rd.of_own (by assumption)) (by assumption)).mono ?_; rintro e w2 ⟨rfl, nq, rfl⟩))
    all_goals
     go_wp2_with fail
     go_ret3
     rw [HFIN.out]
     have hb := ‹Below w.heap.size w _›
     exact ⟨rfl, ⟨hb.os, hb.tape, hb.output, hb.size, hb.block⟩⟩
set_option maxRecDepth 100000 in
theorem rgetint_pos (hd : UInt8) (t : List UInt8) (b o c : Nat) (w : World) (hr : ∀ j u, (W.bc (hd :: t))[j]? = some u → w.cell? ⟨b, o + j, none⟩ = some u) (hbs : b < w.heap.size) (hc : t.length + 1 ≤ c) (_hm : c ≤ maxLen) (hng : ¬ hd.toNat < 128) (K : Nat) (hK : (W.fx false hd).toNat = 128 + K) :
  Calls Try.prog 55 #[.slice (some ⟨b, o, none⟩) (t.length + 1) c] w (DecEndsB (W.dec (hd :: t)) w) := by
 have HK := Lib.hid hK; clear hK
 have hKb : K ≤ 127 := by have := (W.fx false hd).toNat_lt; have := HK.out; omega
 have hkk : (hd.toNat : Int) - 128 = (K : Int) := by have := HK.out; rw [W.fx_toNat] at this; simp at this; omega
 have hhb := hd.toNat_lt
 have h0 : w.cell? ⟨b, o, none⟩ = some (.int .u8 (hd.toNat : Int)) := hr 0 _ rfl
 unfold maxLen at _hm
 have HR := Lib.hid hr; clear hr
 by_cases hK8 : K ≤ 8
 rotate_left
 ·have he := Lib.hid (W.dec_big hd t false K (by simp; omega) HK.out (by omega))
  go_enter Try.func55, Try.ntmps55
  go_wp2_with fail
  go_ret3
  rw [he.out]
  exact ⟨rfl, Below.refl _ _⟩
 by_cases hlen : K ≤ t.length
 rotate_left
 ·have he := Lib.hid (W.dec_more hd t false K (by simp; omega) HK.out (by omega) (by omega))
  go_enter Try.func55, Try.ntmps55
  go_wp2_with fail
  go_ret3
  rw [he.out]
  exact ⟨rfl, Below.refl _ _⟩
 go_enter Try.func55, Try.ntmps55
 go_wp2_with fail
 go_loop [8, 7, 9] (fun ix m _ => ∃ i : Nat, i ≤ K ∧ ix = .int .i64 ((i + 1 : Nat) : Int) ∧ m = .int .i64 (W.val ((t.take i).map (W.fx false)) : Nat) ∧ Hid (W.val ((t.take i).map (W.fx false)) < 9223372036854775808)) (fun ix _ _ => K + 1 - (intOf ix).toNat)
 case atStart => exact ⟨0, by omega, rfl, rfl, by simp [W.val, Hid]⟩
 case round =>
  obtain ⟨i, hi, rfl, rfl, HV⟩ := hrel
  by_cases hlt : i < K
  ·obtain ⟨b2, k1⟩ : ∃ b2 : UInt8, t[i]? = some b2 := ⟨t[i]'(by omega), List.getElem?_eq_getElem (by omega)⟩
   have hcell : w.cell? ⟨b, o + (i + 1), none⟩ = some (.int .u8 (b2.toNat : Int)) := HR.out (i + 1) (.int .u8 (b2.toNat : Int)) (by simp [W.bc, W.bcell, k1])
   have hb2b := b2.toNat_lt
   have hvs := W.val_step t false i b2 k1
   obtain ⟨z, hz⟩ : ∃ z : Nat, z = (W.fx false b2).toNat := ⟨_, rfl⟩
   have hzb : z < 256 := by rw [hz]; exact (W.fx false b2).toNat_lt
   have hzz : (b2.toNat : Int) = (z : Int) := by rw [hz, W.fx_toNat]; simp; try omega
   have hmono := val_mono t false i (K - i) (by omega)
   rw [show i + (K - i) = K from by omega] at hmono
   rw [← hz] at hvs
   obtain ⟨m, hm2⟩ : ∃ m : Nat, m = W.val ((t.take i).map (W.fx false)) := ⟨_, rfl⟩
   have hmb : m ≤ 9223372036854775807 := by rw [hm2]; have := HV.out; omega
   rw [← hm2] at hvs hmono
   have HVS := Lib.hid hvs; clear hvs
   have HZ := Lib.hid hz; clear hz
   have HMO := Lib.hid hmono; clear hmono
   rw [← hm2]
   have HM := Lib.hid hm2; clear hm2 HV
   by_cases hbig : m ≤ 36028797018963967
   ·go_wp2_with fail
    go_round
    case rel => exact ⟨i + 1, by omega, by go_num, by rw [HVS.out]; go_num, by rw [HVS.out]; show _ < _; omega⟩
    case measure => simp [intOf]; omega
   ·have h256 : 256 ^ 1 ≤ 256 ^ (K - i) := Nat.pow_le_pow_right (by omega) (by omega)
    have hbg : 9223372036854775808 ≤ W.val ((t.take K).map (W.fx false)) := by
     have h1 := HMO.out
     have h2 : m * 256 ≤ m * 256 ^ (K - i) := Nat.mul_le_mul_left m (by simpa using h256)
     omega
    have he := Lib.hid (dec_form hd t false K (by simp; omega) HK.out hK8 hlen hbg)
    clear hbg h256
    go_wp2_with fail
    go_ret3
    rw [he.out]
    exact ⟨rfl, Below.refl _ _⟩
  ·obtain rfl : i = K := by omega
   obtain ⟨V, hV⟩ : ∃ V : Nat, V = W.val ((t.take i).map (W.fx false)) := ⟨_, rfl⟩
   have hVb : V ≤ 9223372036854775807 := by rw [hV]; have := HV.out; omega
   have hds := dec_same hd t false i (by simp; omega) HK.out hK8 hlen V hV (by omega) _ rfl
   rw [← hV]
   have HDS := Lib.hid hds; clear hds hV HV
   simp only [Bool.false_eq_true, if_false] at HDS
   have h64 : W.Is64 ((V : Int)) := by unfold W.Is64; omega
   have hcut : Rd w w.heap.size (some ⟨b, o, none⟩) (W.bc ((hd :: t).take (i + 1))) := by
    rw [← W.bc_take]
    exact Rd.take (fun _ => ⟨b, o, rfl, hbs, HR.out⟩) (i + 1)
   have HCUT := Lib.hid hcut; clear hcut
   have hpe := (W.enc_le ((V : Int))).1
   have htl : ((hd :: t).take (i + 1)).length = i + 1 := by rw [List.length_take]; simp; omega
   have HTL := Lib.hid htl; clear htl
   have hs1 : (i : Int) + 1 ≤ (c : Int) := by omega
   have hs2 : (0 : Int) ≤ (i : Int) + 1 := by omega
   have hwr : IntKind.i64.wrap ((i : Int) + 1) = (i : Int) + 1 := by rw [IntKind.wrap_i64]; omega
   have hsm : ∀ (A1 : Option Addr) (c1 : Nat) (w1 : World) (r : Bool), r = decide (W.enc ((V : Int)) = (hd :: t).take (i + 1)) → Rd w1 w1.heap.size A1 (W.bc (W.enc ((V : Int)))) → Below w.heap.size w w1 →
     Calls Try.prog 29 #[.slice A1 (W.enc ((V : Int))).length c1, .slice (some ⟨b, o, none⟩) (i + 1) c] w1 (Quiet (.bool r) w1) := by
    intro A1 c1 w1 r hr1 hrd k0
    rw [hr1]
    exact same_any (W.enc ((V : Int))) ((hd :: t).take (i + 1)) _ _ _ _ _ _ _ _ _ hrd (HCUT.out.below k0 (Nat.le_refl _)) rfl HTL.out.symm (by have := (W.enc_le ((V : Int))).2; unfold maxLen; omega)
   have HSM := Lib.hid hsm; clear hsm
   by_cases hE : W.enc ((V : Int)) = (hd :: t).take (i + 1)
   ·have hfin := HDS.out
    rw [if_pos hE] at hfin
    have HE := Lib.hid (show true = decide (W.enc ((V : Int)) = (hd :: t).take (i + 1)) from (decide_eq_true hE).symm)
    have HFIN := Lib.hid hfin; clear hfin hE HDS
    go_wp2_with fail
    go_region_with (first
     | (go_at_call 45; refine (rint_any _ _ h64).mono ?_; rintro e w1 ⟨v1, rfl, hown1, k0⟩; replace k0 := Bl (Below.refl w.heap.size w).drew k0; obtain ⟨g1, c1, rfl, h11, h12, _, _⟩ := own_pos hown1 hpe)
     | (go_at_call 29; refine (HSM.out _ _ _ _ HE.out (Rd.of_own (by assumption)) (by assumption)).mono ?_; rintro e w2 ⟨rfl, nq, rfl⟩))
    all_goals
     go_wp2_with fail
     go_ret3
     rw [HFIN.out]
     have hb := ‹Below w.heap.size w _›
     exact ⟨rfl, ⟨hb.os, hb.tape, hb.output, hb.size, hb.block⟩⟩
   ·have hfin := HDS.out
    rw [if_neg hE] at hfin
    have HE := Lib.hid (show false = decide (W.enc ((V : Int)) = (hd :: t).take (i + 1)) from (decide_eq_false hE).symm)
    have HFIN := Lib.hid hfin; clear hfin hE HDS
    go_wp2_with fail
    go_region_with (first
     | (go_at_call 45; refine (rint_any _ _ h64).mono ?_; rintro e w1 ⟨v1, rfl, hown1, k0⟩; replace k0 := Bl (Below.refl w.heap.size w).drew k0; obtain ⟨g1, c1, rfl, h11, h12, _, _⟩ := own_pos hown1 hpe)
     | (go_at_call 29; refine (HSM.out _ _ _ _ HE.out (Rd.of_own (by assumption)) (by assumption)).mono ?_; rintro e w2 ⟨rfl, nq, rfl⟩))
    all_goals
     go_wp2_with fail
     go_ret3
     rw [HFIN.out]
     have hb := ‹Below w.heap.size w _›
     exact ⟨rfl, ⟨hb.os, hb.tape, hb.output, hb.size, hb.block⟩⟩
theorem rgetint_any (l : List UInt8) (A : Option Addr) (n c : Nat) (L : Nat) (w : World) (hr : Rd w L A (W.bc l)) (hL : L ≤ w.heap.size) (hn : n = l.length) (hc : n ≤ c) (hm : c ≤ maxLen) :
  Calls Try.prog 55 #[.slice A n c] w (DecEndsB (W.dec l) w) := by
 subst hn
 cases l with
 | nil =>
  go_enter Try.func55, Try.ntmps55
  go_wp2_with fail
  go_ret3
  exact ⟨rfl, Below.refl _ _⟩
 | cons hd t =>
  obtain ⟨b, o, rfl, hb, hcell⟩ := hr (by simp)
  have hlt := hd.toNat_lt
  have hbs : b < w.heap.size := by omega
  by_cases hng : hd.toNat < 128
  ·exact rgetint_neg hd t b o c w hcell hbs hc hm hng ((W.fx true hd).toNat - 128) (by rw [W.fx_toNat]; simp; omega)
  ·exact rgetint_pos hd t b o c w hcell hbs hc hm hng ((W.fx false hd).toNat - 128) (by rw [W.fx_toNat]; simp; omega)
end Go.Proofs.Ytgdibcgphjmofaa
