/-
  THE WALK of the law WireConcat.
-/
import Derived.Test.YthgpgdpndionjaaLawIRT
import Derived.Test.YthgpgdpndionjaaPlainY
namespace Go.Proofs.Ythgpgdpndionjaa
open Go.RowKit

theorem decT_enc (s : ByteArray) (t : List UInt8) (h : W.Is64 (s.size : Int)) : W.decT (W.encB s.data.toList ++ t) = (s, (W.encB s.data.toList).length, 0) := W.codec_str.back s h t
theorem decI_enc (l : List Int) (t : List UInt8) (hv : ∀ x ∈ l, W.Is64 x) (hl : W.Is64 (l.length : Int)) : W.decI (W.encI l ++ t) = (l, (W.encI l).length, 0) := W.decL_back W.codec_int l t hv hl

set_option maxRecDepth 100000 in
set_option maxHeartbeats 1000000 in
theorem law_con (s : ByteArray) (A : Option Addr) (len cap : Nat) (l : List Int) (w : World) (_hs : s.size ≤ maxLen) (hs2 : s.data.toList.length ≤ reachBytes) (hb : IsI w A len cap l) (hcap : cap * 8 ≤ reachBytes) :
    Calls Try.prog 10 #[.string s, .slice A len cap] w fun e w' => e = .returned (.bool true) ∧ Below w.heap.size w w' := by
  obtain ⟨hr, rfl, hc, hm, h64⟩ := hb
  have HR := Lib.hid hr; clear hr
  have hs : s.size ≤ 140737488351232 := hs2
  have hcap2 : cap * 8 ≤ 140737488351232 := hcap
  clear hs2 hcap
  unfold maxLen at hm
  by_cases hbig2 : 2000 < (s.size : Int) + (l.length : Int)
  · go_enter Try.func10, Try.ntmps10
    go_wp2_with fail
    refine (sanity_step w _ (Below.refl _ _)).mono ?_
    rintro e w1 ⟨rfl, hb1⟩
    go_wp2_with fail
    go_ret
    exact ⟨rfl, hb1⟩
  · obtain ⟨i0, hi, hz0, hz1, hz2⟩ := info_parts info_u8
    have hIs : W.Is64 (s.size : Int) := by unfold W.Is64; omega
    have hdB := Lib.hid (decT_enc s (W.encI l) hIs)
    have hdI := Lib.hid (decI_enc l [] h64 (by unfold W.Is64; omega))
    have hN2 := W.encI_le l
    have hN1 : (W.encB s.data.toList).length ≤ 2009 := by
      rw [W.encB_length]
      have := (W.enc_le s.data.toList.length).2
      have e1 : s.data.toList.length = s.size := rfl
      omega
    have hp1 := W.encB_pos s.data.toList
    have hp2 : 0 < (W.encI l).length := by unfold W.encI; rw [List.length_append]; have := (W.enc_le l.length).1; omega
    obtain ⟨B1, hB1⟩ : ∃ B1, B1 = W.encB s.data.toList := ⟨_, rfl⟩
    obtain ⟨B2, hB2⟩ : ∃ B2, B2 = W.encI l := ⟨_, rfl⟩
    have cB := fun W0 => wbytes_any s W0 (by omega)
    have cI := fun (W0 : World) (h : Rd W0 w.heap.size A (ic l)) (h2 : w.heap.size ≤ W0.heap.size) => wints_any l A l.length cap w.heap.size W0 h h2 rfl h64 (by omega) (by omega)
    rw [← hB1] at cB hdB hN1 hp1
    rw [← hB2] at cI hdI hN2 hp2 hdB
    have CB := Lib.hid cB
    have CI := Lib.hid cI
    have H64 := Lib.hid h64
    clear cB cI hB1 hB2 h64
    go_enter Try.func10, Try.ntmps10
    go_wp2_with fail
    refine (CB.out _).mono ?_
    rintro e w1 ⟨v1, rfl, hown1, hb1⟩
    obtain ⟨g1, c1, rfl, h11, h12, hg1, hs1⟩ := own_pos hown1 hp1
    have hz : w.heap.size + 1 ≤ w1.heap.size := by have := hb1.size; simpa using this
    have hmade : (w.alloc (.cells #[] 5)).ownsRow w.heap.size 5 1 (.slice (some ⟨w.heap.size, 0, none⟩) 0 0) 0 [] := World.ownsRow_made w #[] 0 (Nat.le_refl _) (by decide) rfl
    have hmade1 := own_below hmade hb1
    have hB1 : Below w.heap.size w w1 := below_new _ _ _ hb1
    clear hmade
    go_wp2_with (at_builtin; refine wpList_append_own _ rfl (.tmp 19) (.tmp 21) _ rfl w.heap.size 5 i0 _ 1 1 Try.underlying28 hi hz0 hz1 hz2 rfl (by decide) _ _ _ rfl hmade1 ⟨g1, 0, none⟩ _ _ (W.bc B1) rfl (by simp) (own_cells hown1) (W.bc_oneCell _) (by unfold maxLen; omega) (by omega) (by omega) ?_)
    intro v2 w2 hown2 hgr2 _
    have hB2 : Below w.heap.size w w2 := hB1.grown hgr2 (by omega) (fun k hk => by have := hmade1.lt k hk; omega)
    have hz2' := hB2.size
    clear hgr2 hmade1 hown1 hb1
    try simp only [Nat.zero_add, List.nil_append] at hown2
    go_wp2_with fail
    refine (CI.out _ (HR.out.below hB2 (Nat.le_refl _)) hz2').mono ?_
    rintro e w3 ⟨v3, rfl, hown3, hb3⟩
    obtain ⟨g3, c3, rfl, h31, h32, hg3, hs3⟩ := own_pos hown3 hp2
    have hown23 := own_below hown2 hb3
    have hB3 := Bl hB2 hb3
    have hz3 := hB3.size
    clear hb3 hown2
    go_wp2_with (at_builtin; refine wpList_append_own _ rfl (.tmp 22) (.tmp 24) _ rfl w.heap.size 5 i0 _ 1 1 Try.underlying28 hi hz0 hz1 hz2 rfl (by decide) _ _ _ rfl hown23 ⟨g3, 0, none⟩ _ _ (W.bc B2) rfl (by simp) (own_cells hown3) (W.bc_oneCell _) (by unfold maxLen; omega) (by omega) (by omega) ?_)
    intro v4 w4 hown4 hgr4 _
    have hB4 : Below w.heap.size w w4 := hB3.grown hgr4 (by omega) (fun k hk => by have := hown23.lt k hk; omega)
    obtain ⟨g4, c4, rfl, h41, h42, hg4, hs4⟩ := own_pos hown4 (by omega)
    rw [← W.bc_append] at hown4
    have hrd4 := Rd.of_own hown4
    clear hgr4 hown3 hown23 hg1 hg3 hs1 hs3 hown4
    have hg := wgetbytes_b (B1 ++ B2) (some ⟨g4, 0, none⟩) (B1.length + B2.length) c4 w4.heap.size w4 hrd4 (by simp) h41 h42 s B1.length 0 hdB.out
    have HG := Lib.hid hg; clear hg
    go_wp2_with fail
    with_reducible refine HG.out.mono ?_
    rintro e w5 ⟨rfl, hb5⟩
    have hB5 := Bl hB4 hb5
    have hcut := (hrd4.below hb5 (Nat.le_refl _)).cut (k := B1.length) (cap := c4) (by simp; omega)
    rw [W.bc_drop, List.drop_left, if_neg (by omega)] at hcut
    have hcut2 : Rd w5 w4.heap.size (some ⟨g4, B1.length, none⟩) (W.bc B2) := by simpa [Addr.add_lit] using hcut
    have hgi := wgetints_any B2 (some ⟨g4, B1.length, none⟩) B2.length (c4 - B1.length) w4.heap.size w5 hcut2 hb5.size rfl (by omega) (by omega) (by omega)
    have hd := hdI.out
    rw [List.append_nil] at hd
    rw [hd] at hgi
    have HGI := Lib.hid hgi; clear hgi hd hcut hcut2 hrd4 hb5
    have hc4 : ¬ c4 = B1.length := by omega
    unfold maxLen at h42
    go_wp2_with fail
    with_reducible refine HGI.out.mono ?_
    rintro e w6 ⟨v6, rfl, hown6, hb6⟩
    obtain ⟨A6, c6, rfl, h61, h62, _, _⟩ := own_form hown6
    have hB6 := Bl hB5 hb6
    go_wp2_with fail
    refine (sanity_any w6).mono ?_
    rintro e w7 ⟨rfl, hb7⟩
    have hB7 := Bl hB6 hb7
    have hsm := sameints_any l l A6 A l.length l.length c6 cap _ _ w7 (Rd.of_own (own_below hown6 hb7)) (HR.out.below hB7 (Nat.le_refl _)) rfl rfl (by unfold maxLen; omega)
    rw [decide_eq_true rfl] at hsm
    have HSM := Lib.hid hsm; clear hsm
    go_wp2_with fail
    with_reducible refine HSM.out.mono ?_
    rintro e w8 ⟨rfl, nq, rfl⟩
    go_wp2_with fail
    go_ret
    exact ⟨rfl, ⟨hB7.os, hB7.tape, hB7.output, hB7.size, hB7.block⟩⟩
end Go.Proofs.Ythgpgdpndionjaa
