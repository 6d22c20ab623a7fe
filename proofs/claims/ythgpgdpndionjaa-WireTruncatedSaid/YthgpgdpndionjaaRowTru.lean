/-
  THE LAW WireTruncated: for every input it returns true, and each argument reads afterwards as it read before. Its walk: LawTru; here the row's step.
-/
import Derived.Test.YthgpgdpndionjaaLawTru
import Derived.WalkKit
import Derived.ProofKit
import Derived.OpenShut
import Derived.ShutString
import Derived.ChangeOld
import Derived.Below
import Derived.SizedLaws
namespace Go.Proofs.Ythgpgdpndionjaa.wireTruncated
open Go.ChangeShapes Go.WideShapes Go.ChangeAt Go.RowKit
open Go.ChangeMaps (open_string shut_string)
set_option linter.unusedVariables false

theorem own : ownKnob Try.prog.godebug = none := by kernel_rfl
theorem laidOut : laidOutB Try.prog = true := by kernel_rfl

set_option maxRecDepth 100000 in
theorem lifted (os : Os) (started : os.Started) (H : Type) (enc : TypeId × Value → H) :
    ReturnsInHanded {} Try.checked os 9 .any (Rows.wireTruncatedSpec.pre6 enc Try.prog Try.f9 Rows.wireTruncatedRow.domain false) (Rows.wireTruncatedSpec.post enc Try.prog Try.f9 false true false false) := by
  refine returnsInHanded_of_change_sized (C := Try.checked) own started (by kernel_rfl) Try.func9
    (ChangeSpec.witness6 (enc := enc) (C := Try.checked) false ⟨#[], #[.int .i64 0, .string ByteArray.empty, .slice none 0 0, .slice none 0 0, .slice none 0 0], []⟩ 8 (by kernel_rfl) (by kernel_rfl) (by kernel_rfl) (by kernel_rfl)) ?_
  intro W base args ds gs before hval0 hW hcnd hsz0 _
  have hval : ∀ (j : Nat) t v, Try.f9.params[j]? = some t → args[j]? = some v → Value.okWide Try.prog W .any base t v := hval0
  have hW' := hW
  obtain ⟨p, q, hA0, hV, rfl, hfz, hnd⟩ := hW
  have hA : DataW.TrodAll enc Try.prog W 0 (fun _ => true) true Try.f9.params.toList args.toList ds p := hA0
  have hsz : (DataW.weightsEach Try.prog (Try.f9.params.toList ++ Rows.wireTruncatedSpec.plain.varTypes Try.prog) (ds ++ gs)).all (· ≤ reachBytes) = true := hsz0
  rw [Try.params9] at hA hval hsz
  obtain ⟨v0, vs0, d0, ds0, p0, q0, hargs, rfl, rfl, h0, r0⟩ := trodAll_cons hA
  obtain ⟨v1, vs1, d1, ds1, p1, q1, rfl, rfl, rfl, h1, r1⟩ := trodAll_cons r0
  obtain ⟨v2, vs2, d2, ds2, p2, q2, rfl, rfl, rfl, h2, r2⟩ := trodAll_cons r1
  obtain ⟨v3, vs3, d3, ds3, p3, q3, rfl, rfl, rfl, h3, r3⟩ := trodAll_cons r2
  obtain ⟨v4, vs4, d4, ds4, p4, q4, rfl, rfl, rfl, h4, r4⟩ := trodAll_cons r3
  obtain ⟨rfl, rfl, rfl⟩ := trodAll_nil r4
  obtain rfl : args = #[v0, v1, v2, v3, v4] := by cases args; simp_all
  obtain ⟨rfl, rfl⟩ := trodVars_none hV
  obtain ⟨a0, rfl, rfl, rfl, w0⟩ := open_int Try.underlying3 (hval 0 3 v0 rfl rfl) h0
  obtain ⟨a1, rfl, rfl, rfl, w1⟩ := open_string Try.underlying9 (hval 1 9 v1 rfl rfl) h1
  obtain ⟨a2, len2, cap2, rfl⟩ := okWide_slice Try.underlying22 (hval 2 22 v2 rfl rfl)
  have k2 := h2
  have lt2 : ∀ x ∈ p2, x.block < W.heap.size := by obtain ⟨m, hm⟩ := k2; exact DataW.trod_lt m _ _ _ hm
  obtain ⟨z2, w2, s2⟩ : ∃ zs, IsI W a2 len2 cap2 zs ∧ cap2 * 8 ≤ reachBytes := by
    obtain ⟨fuel, hf⟩ := h2
    rcases open_ints Try.underlying22 Try.underlying3 (by kernel_rfl) hf with ⟨hcs, _⟩ | ⟨x, l, c, zs, hcs, _, hl, hm, hz, hx, hcell, hwz⟩
    · simp [Value.cells] at hcs
      obtain ⟨rfl, rfl, rfl⟩ := hcs
      exact ⟨[], isI_nil _, by simp [reachBytes]⟩
    · simp [Value.cells] at hcs
      obtain ⟨rfl, rfl, rfl⟩ := hcs
      have hdx := congrArg Prod.fst hx
      simp only at hdx
      have hsz1 := sized_slice hsz (j := 2) (t := 22) (e := 3) rfl (by rw [hdx]; rfl) Try.underlying22
      have hby : Try.prog.bytesOf 3 = 8 := by kernel_rfl
      rw [hby] at hsz1
      simp only [lits, List.length_map, List.length_take, List.length_drop] at hsz1
      have hz2 : zs.length = cap2 := by simpa using hz
      obtain ⟨q, hq⟩ := isI_of hl hm hz2 hcell hwz
      exact ⟨q, hq, by omega⟩
  obtain ⟨a3, len3, cap3, rfl⟩ := okWide_slice Try.underlying23 (hval 3 23 v3 rfl rfl)
  have k3 := h3
  have lt3 : ∀ x ∈ p3, x.block < W.heap.size := by obtain ⟨m, hm⟩ := k3; exact DataW.trod_lt m _ _ _ hm
  obtain ⟨z3, w3, s3⟩ : ∃ zs, IsS W a3 len3 cap3 zs ∧ cap3 * 16 ≤ reachBytes ∧ ∀ y ∈ zs, y.size ≤ reachBytes := by
    obtain ⟨fuel, hf⟩ := h3
    rcases Go.Deep.open_strs Try.underlying23 Try.underlying9 (by kernel_rfl) hf with ⟨hcs, _⟩ | ⟨x, l, c, m, Sx, hcs, _, hl, hm, hmm, hx, hcell⟩
    · simp [Value.cells] at hcs
      obtain ⟨rfl, rfl, rfl⟩ := hcs
      exact ⟨[], isS_nil _, by simp [reachBytes], by simp⟩
    · simp [Value.cells] at hcs
      obtain ⟨rfl, rfl, rfl⟩ := hcs
      have hdx := congrArg Prod.fst hx
      simp only at hdx
      have hmc : m = cap3 := by rw [hmm]; rfl
      subst hmc
      have hsz1 := sized_slice hsz (j := 3) (t := 23) (e := 9) rfl (by rw [hdx]; rfl) Try.underlying23
      have hby : Try.prog.bytesOf 9 = 16 := by kernel_rfl
      rw [hby] at hsz1
      simp only [List.length_map, List.length_range] at hsz1
      have hin : ∀ i, i < len3 → (Sx i).size ≤ reachBytes := fun i hi => sized_strs hsz (j := 3) (t := 23) (e := 9) rfl (by rw [hdx]; rfl) Try.underlying23 (Sx i).data.toList (List.mem_map.2 ⟨i, List.mem_range.2 hi, rfl⟩)
      obtain ⟨q, hq, hq2⟩ := isS_of hl hm hl hcell
      refine ⟨q, hq, by omega, fun y hy => ?_⟩
      rw [hq2] at hy
      obtain ⟨i, hi, rfl⟩ := List.mem_map.1 hy
      exact hin i (List.mem_range.1 hi)
  obtain ⟨a4, len4, cap4, rfl⟩ := okWide_slice Try.underlying24 (hval 4 24 v4 rfl rfl)
  have k4 := h4
  have lt4 : ∀ x ∈ p4, x.block < W.heap.size := by obtain ⟨m, hm⟩ := k4; exact DataW.trod_lt m _ _ _ hm
  obtain ⟨z4, w4, s4⟩ : ∃ zs, IsD W a4 len4 cap4 zs ∧ cap4 * 16 ≤ reachBytes := by
    obtain ⟨fuel, hf⟩ := h4
    rcases Go.Deep.open_slice Try.underlying24 hf with ⟨hcs, _⟩ | ⟨x, l, c, m, n, D, Pl, hcs, _, hl, hm, hmm, hx, hi⟩
    · simp [Value.cells] at hcs
      obtain ⟨rfl, rfl, rfl⟩ := hcs
      exact ⟨[], isD_nil _, by simp [reachBytes]⟩
    · simp [Value.cells] at hcs
      obtain ⟨rfl, rfl, rfl⟩ := hcs
      have hdx := congrArg Prod.fst hx
      simp only at hdx
      have hmc : m = cap4 := by rw [hmm]; rfl
      subst hmc
      have hsz1 := sized_slice hsz (j := 4) (t := 24) (e := 57) rfl (by rw [hdx]; rfl) Try.underlying24
      have hby : Try.prog.bytesOf 57 = 16 := by kernel_rfl
      rw [hby] at hsz1
      simp only [List.length_map, List.length_range] at hsz1
      obtain ⟨q, hq⟩ := isD_of hl hm hl hi
      exact ⟨q, hq, by omega⟩
  clear hA0 hval0
  refine (law_tru a0 a1 a2 len2 cap2 z2 a3 len3 cap3 z3 a4 len4 cap4 z4 W (is64_of w0) w1 (sized_string hsz (j := 1) rfl rfl) w2 s2 w3 s3 w4 s4).mono fun e W' ⟨he, bel⟩ => ?_
  subst he
  exact ⟨_, rfl, _, _, _, [], _, [], hW', trodAll_mk1 (shut_bool Try.underlying4 _), (trodAll_cons_mk (shut_int Try.underlying3 w0) (trodAll_cons_mk (shut_string Try.underlying9 w1) (trodAll_cons_mk (Below.trod laidOut (by kernel_rfl) (of_decide_eq_true (by kernel_rfl)) k2 bel lt2) (trodAll_cons_mk (Below.trod laidOut (by kernel_rfl) (of_decide_eq_true (by kernel_rfl)) k3 bel lt3) (trodAll_cons_mk (Below.trod laidOut (by kernel_rfl) (of_decide_eq_true (by kernel_rfl)) k4 bel lt4) trodAll_mk0))))), rfl, bel.frame _, fun h => by cases h⟩

theorem over : Rows.wireTruncatedRow.holds Try.pinned (OpenSpec.ofChange Rows.wireTruncatedSpec) :=
  OpenClaim.holds_of_wide 9 Try.f9 rfl rfl rfl rfl rfl rfl rfl ⟨rfl, rfl, rfl, rfl, rfl⟩ rfl rfl rfl rfl rfl (by kernel_rfl) Try.func9 (by kernel_rfl)
    (of_decide_eq_true (by kernel_rfl)) (by unfold Func.isWrapper; first | (rw [if_pos (by decide +kernel)]; kernel_rfl) | (rw [if_neg (by decide +kernel)]; exact ⟨rfl, rfl⟩))
    (fun os started H enc _ => lifted os started H enc)

theorem proved : Rows.WireTruncatedSaid := over
#print axioms proved
end Go.Proofs.Ythgpgdpndionjaa.wireTruncated
