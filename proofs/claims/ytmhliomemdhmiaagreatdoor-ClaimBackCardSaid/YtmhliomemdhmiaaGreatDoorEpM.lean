/-
 ARGUMENTS: bytes.
-/
import Derived.Test.YtmhliomemdhmiaaGreatDoorCaS
import Derived.Test.YtmhliomemdhmiaaGreatDoorWalkMul
import Derived.Test.YtmhliomemdhmiaaGreatDoorMemI
import Derived.OpenShut
import Derived.Test.YtmhliomemdhmiaaGreatDoorEqA
import Derived.Carry
namespace Go.Proofs.YtmhliomemdhmiaaGreatDoor.E.Ca
open Go.RowKit
set_option linter.unusedVariables false
set_option linter.unusedSimpArgs false
theorem sm64 {x : Int} (h : -2000 ≤ x ∧ x ≤ 2000) : W.Is64 x := by unfold W.Is64; omega
structure G64 (c : CM) : Prop where
 h : W.Is64 c.by_ ∧ W.Is64 c.seq ∧ W.Is64 c.tick ∧ W.Is64 c.kind ∧ W.Is64 c.w
 r : ∀ p ∈ c.refs, W.Is64 p.1 ∧ W.Is64 p.2
 f : W.Is64 c.fit.a ∧ W.Is64 c.fit.b ∧ W.Is64 c.fit.ea ∧ W.Is64 c.fit.eb ∧ W.Is64 c.fit.many
section
variable {l : List Int} {i : Nat} {b s t kd n : Int} {rf : List (Int × Int)} {c : CM} {L : List CM}
theorem z64 : W.Is64 0 := sm64 (by omega)
theorem zF_64 : W.Is64 zF.a ∧ W.Is64 zF.b ∧ W.Is64 zF.ea ∧ W.Is64 zF.eb ∧ W.Is64 zF.many := ⟨z64, z64, z64, z64, z64⟩
theorem c0_64 : G64 c0 := ⟨⟨z64, z64, z64, z64, z64⟩, fun p hp => by simp at hp, zF_64⟩
theorem atz_64 {m : Nat} (h : m ≤ 1000) : W.Is64 (atz l i m) := by have := atz_in l i m; exact sm64 (by omega)
theorem clG_64 (hb : W.Is64 b) (hs : W.Is64 s) (ht : W.Is64 t) (hk : W.Is64 kd) (hr : ∀ p ∈ rf, W.Is64 p.1 ∧ W.Is64 p.2) : G64 (clG l i b s t rf kd) := by
 unfold clG
 split
 · exact ⟨⟨hb, hs, ht, z64, by have := atz_in l (5 * i + 4) 8; exact sm64 (x := 1 + atz l (5 * i + 4) 8) (by omega)⟩, fun p hp => by simp at hp, zF_64⟩
 · refine ⟨⟨hb, hs, ht, sm64 (x := 1) (by omega), z64⟩, hr, ?_⟩
   have h1 := atz_in l (5 * i + 2) 2
   have h2 := atz_in l (5 * i + 2 + 1) 1
   have h3 := atz_in l (5 * i + 2 + 2) 11
   have h4 := atz_in l (5 * i + 2 + 3) 11
   have h5 := atz_in l (5 * i + 2 + 4) 2
   refine ⟨sm64 (x := atz l (5 * i + 2) 2) (by omega), sm64 (x := atz l (5 * i + 2) 2 + 1 + atz l (5 * i + 2 + 1) 1) (by omega), sm64 (x := atz l (5 * i + 2 + 2) 11) (by omega), sm64 (x := atz l (5 * i + 2 + 3) 11) (by omega), sm64 (x := 1 + atz l (5 * i + 2 + 4) 2) (by omega)⟩
 · exact ⟨⟨hb, hs, ht, hk, z64⟩, hr, zF_64⟩
theorem getD_64 (h : ∀ c ∈ L, G64 c) (i : Nat) : G64 (L.getD i c0) := by
 rw [List.getD_eq_getElem?_getD]
 cases e : L[i]? with
 | none => exact c0_64
 | some c => exact h c (List.mem_of_getElem? e)
theorem refs_64 (h : ∀ c ∈ L, G64 c) (bits : Int) : ∀ k, ∀ p ∈ refsF L bits k, W.Is64 p.1 ∧ W.Is64 p.2
 | 0, p, hp => by simp [refsF] at hp
 | k + 1, p, hp => by
  have ih := refs_64 h bits k
  unfold refsF at hp
  split at hp
  · unfold insN at hp
    rw [List.mem_append, List.mem_append, List.mem_singleton] at hp
    rcases hp with (hp | hp) | hp
    · exact ih p (List.mem_of_mem_take hp)
    · subst hp
      have := getD_64 h k
      exact ⟨this.h.1, this.h.2.1⟩
    · exact ih p (List.mem_of_mem_drop hp)
  · exact ih p hp
theorem good_64 : ∀ i, i ≤ 10 → ∀ c ∈ (goodF l i).1, G64 c
 | 0, _, c, hc => by cases hc
 | i + 1, hi, c, hc => by
  have ih := good_64 i (by omega)
  rcases List.mem_append.1 hc with h | h
  · exact ih c h
  · rw [List.mem_singleton] at h
    subst h
    have ht := good_tick (l := l) (i + 1)
    have ht' : (goodF l (i + 1)).2 = tkG (goodF l i).2 l i := rfl
    rw [ht'] at ht
    have hs := seq_le (goodF l i).1 (byG l i) (goodF l i).1.length
    have hl := good_len (l := l) i
    have hk := kdG_in l i
    refine clG_64 (atz_64 (by omega)) (sm64 (by omega)) (sm64 (by omega)) (sm64 ?_) (refs_64 ih _ _)
    unfold kd2
    split <;> omega
theorem goodL_64 : ∀ c ∈ goodL l, G64 c := good_64 _ (Nat.min_le_left _ _)
theorem someC_64 (h : G64 c) : G64 (someC l i c) := by
 have a2 := atz_in l (5 * i + 4) 3
 have d2 : W.Is64 ((atz l (5 * i + 4) 3).tdiv 2) := by
  refine sm64 ?_
  generalize atz l (5 * i + 4) 3 = x at a2
  have hx : x = 0 ∨ x = 1 ∨ x = 2 ∨ x = 3 := by omega
  rcases hx with rfl | rfl | rfl | rfl <;> decide
 unfold someC
 split
 · refine ⟨⟨h.h.1, atz_64 (by omega), atz_64 (by omega), sm64 (x := 3) (by omega), h.h.2.2.2.2⟩, fun p hp => ?_, h.f⟩
   simp only [List.mem_cons, List.not_mem_nil, or_false] at hp
   rcases hp with rfl | rfl
   · exact ⟨atz_64 (by omega), atz_64 (by omega)⟩
   · exact ⟨atz_64 (by omega), d2⟩
 · exact ⟨⟨h.h.1, atz_64 (by omega), atz_64 (by omega), h.h.2.2.2⟩, h.r, h.f⟩
theorem some_64 : ∀ i, ∀ c ∈ someF l i, G64 c
 | 0, c, hc => by cases hc
 | i + 1, c, hc => by
  rcases List.mem_append.1 hc with h | h
  · exact some_64 i c h
  · rw [List.mem_singleton] at h
    subst h
    exact someC_64 (getD_64 goodL_64 i)
theorem someC_fb (h : FB c) : FB (someC l i c) := by
 unfold someC
 split
 · exact h
 · exact h
theorem getD_fb (h : ∀ c ∈ L, FB c) (i : Nat) : FB (L.getD i c0) := by
 rw [List.getD_eq_getElem?_getD]
 cases e : L[i]? with
 | none => exact zF_bits
 | some c => exact h c (List.mem_of_getElem? e)
theorem some_fb : ∀ i, ∀ c ∈ someF l i, FB c
 | 0, c, hc => by cases hc
 | i + 1, c, hc => by
  rcases List.mem_append.1 hc with h | h
  · exact some_fb i c h
  · rw [List.mem_singleton] at h
    subst h
    exact someC_fb (getD_fb (good_fb _) i)
theorem odd_64 (h : G64 c) (hn : W.Is64 n) (x : Int) : G64 (oddF c x n) := by
 have ap : ∀ a : Int × Int, W.Is64 a.1 ∧ W.Is64 a.2 → ∀ p ∈ c.refs ++ [a], W.Is64 p.1 ∧ W.Is64 p.2 := fun a ha p hp => by
  rcases List.mem_append.1 hp with q | q
  · exact h.r p q
  · rw [List.mem_singleton] at q
    subst q
    exact ha
 unfold oddF
 by_cases e0 : x = 0
 · rw [if_pos e0]; exact ⟨⟨hn, h.h.2⟩, h.r, h.f⟩
 rw [if_neg e0]
 by_cases e1 : x = 1
 · rw [if_pos e1]; exact ⟨⟨h.h.1, hn, h.h.2.2⟩, h.r, h.f⟩
 rw [if_neg e1]
 by_cases e2 : x = 2
 · rw [if_pos e2]; exact ⟨⟨h.h.1, h.h.2.1, hn, h.h.2.2.2⟩, h.r, h.f⟩
 rw [if_neg e2]
 by_cases e3 : x = 3
 · rw [if_pos e3]; exact ⟨⟨h.h.1, h.h.2.1, h.h.2.2.1, hn, h.h.2.2.2.2⟩, h.r, h.f⟩
 rw [if_neg e3]
 by_cases e4 : x = 4
 · rw [if_pos e4]; exact ⟨⟨h.h.1, h.h.2.1, h.h.2.2.1, h.h.2.2.2.1, hn⟩, h.r, h.f⟩
 rw [if_neg e4]
 by_cases e5 : x = 5
 · rw [if_pos e5]; exact ⟨h.h, ap _ ⟨hn, hn⟩, h.f⟩
 rw [if_neg e5]
 by_cases e6 : x = 6
 · rw [if_pos e6]; exact ⟨h.h, ap _ ⟨h.h.1, h.h.2.1⟩, h.f⟩
 rw [if_neg e6]
 by_cases e7 : x = 7
 · rw [if_pos e7]; exact ⟨h.h, h.r, h.f.1, h.f.2.1, h.f.2.2.1, h.f.2.2.2.1, hn⟩
 rw [if_neg e7]
 by_cases e8 : x = 8
 · rw [if_pos e8]; exact ⟨h.h, h.r, hn, h.f.2⟩
 rw [if_neg e8]
 by_cases e9 : x = 9
 · rw [if_pos e9]; exact ⟨h.h, h.r, h.f⟩
 rw [if_neg e9]
 by_cases e10 : x = 10
 · rw [if_pos e10]; exact ⟨h.h, h.r, h.f⟩
 rw [if_neg e10]
 exact ⟨h.h, h.r, h.f.1, h.f.2.1, h.f.2.2.1, hn, h.f.2.2.2.2⟩
theorem dig_fs {n : Nat} (h : I.Can (digs n) → I.Bd 100 (I.val (digs n))) : (digs n).length ≤ 100 := by
 have h1 := h (digs_ok n).1
 rw [(digs_ok n).2] at h1
 have := bd_len h1
 rwa [Int.natAbs_natCast] at this
theorem fs_of {r : Rat} (h : Bn 100 (ofR r)) : Fs r := ⟨dig_fs h.1, dig_fs h.2⟩
/-- The generated claims have codes. -/
structure Gq (c : CM) (q : CQ) : Prop where
 e : c = q.cm
 s : Sq q
theorem gq_of (h : G64 c) (hf : FB c) {q : CQ} (e : c = q.cm) (hr : q.refs.length ≤ 20) : Gq c q := by
 subst e
 refine ⟨rfl, fun x hx => ?_, h.r, fun x hx => ?_, fun r hr => ?_, hr⟩
 · simp only [hdQ, List.mem_cons, List.not_mem_nil, or_false] at hx
   rcases hx with rfl | rfl | rfl | rfl | rfl
   · exact h.h.1
   · exact h.h.2.1
   · exact h.h.2.2.1
   · exact h.h.2.2.2.1
   · exact h.h.2.2.2.2
 · simp only [FQ.wh, List.mem_cons, List.not_mem_nil, or_false] at hx
   rcases hx with rfl | rfl | rfl | rfl | rfl
   · exact h.f.1
   · exact h.f.2.1
   · exact h.f.2.2.1
   · exact h.f.2.2.2.1
   · exact h.f.2.2.2.2
 · simp only [FQ.qs, List.mem_cons, List.not_mem_nil, or_false] at hr
   rcases hr with rfl | rfl | rfl | rfl | rfl | rfl <;> exact fs_of (hf _ (by simp [nu, CQ.cm, FQ.fm]))
theorem all_gq {c : CM} (h : c ∈ someL l ++ goodL l) : ∃ q, Gq c q ∧ q.refs.length ≤ 10 := by
 rcases List.mem_append.1 h with h | h
 · obtain ⟨q, e, hr⟩ := some_q _ c h
   exact ⟨q, gq_of (some_64 _ c h) (some_fb _ c h) e (by omega), hr⟩
 · obtain ⟨q, e, hr⟩ := goodL_q c h
   exact ⟨q, gq_of (goodL_64 c h) (good_fb _ c h) e (by omega), hr⟩
end
section
variable {c d : CQ}
theorem vz_of {x : Int} (h : (digs x.natAbs).length ≤ 100) : VZ x := by
 unfold VZ W.Is64 znL
 rw [List.length_cons]
 omega
theorem Sq.vc (h : Sq c) : VC c := by
 have hn := h.n
 have hl := flatR_len c.refs
 refine ⟨⟨h.h, sm64 (by simp [hdQ])⟩, ⟨h.r64, sm64 (by omega)⟩, ⟨h.f, sm64 (by simp [FQ.wh])⟩, fun r hr => ?_⟩
 have := h.q r hr
 exact ⟨vz_of this.1, vz_of this.2⟩
theorem Sq.len (h : Sq c) : 0 < (encC c).length ∧ (encC c).length ≤ 20000 := by
 have h3 := enc3_len h
 have e3 := encC_3 c
 have q0 := (h.q c.fit.r0 (by simp [FQ.qs])).len; have q1 := (h.q c.fit.r1 (by simp [FQ.qs])).len; have q2 := (h.q c.fit.r2 (by simp [FQ.qs])).len; have q3 := (h.q c.fit.r3 (by simp [FQ.qs])).len; have q4 := (h.q c.fit.r4 (by simp [FQ.qs])).len; have q5 := (h.q c.fit.r5 (by simp [FQ.qs])).len
 rw [e3]
 simp only [FQ.qs, List.flatMap_cons, List.flatMap_nil, List.length_append, List.length_nil]
 omega
theorem eqP_iff : eqP c d ↔ c = d := by
 constructor
 · obtain ⟨a1, a2, a3, a4, a5, ⟨f1, f2, f3, f4, f5, r0, r1, r2, r3, r4, r5⟩, a7⟩ := c
   obtain ⟨b1, b2, b3, b4, b5, ⟨g1, g2, g3, g4, g5, s0, s1, s2, s3, s4, s5⟩, b7⟩ := d
   rintro ⟨h1, h2, h3, h4, h5, h6, h7, h8⟩
   simp only [FQ.wh, FQ.qs, List.cons.injEq, and_true] at h1 h2 h3 h4 h5 h6 h7 h8
   obtain ⟨rfl, rfl, rfl, rfl, rfl⟩ := h7
   obtain ⟨rfl, rfl, rfl, rfl, rfl, rfl⟩ := h8
   subst h1; subst h2; subst h3; subst h4; subst h5; subst h6
   rfl
 · rintro rfl
   exact ⟨rfl, rfl, rfl, rfl, rfl, rfl, rfl, rfl⟩
/-- Equal codes, equal claims. -/
theorem same_code (hc : Sq c) (hd : Sq d) : eqP c d ↔ encC d = encC c := by
 rw [eqP_iff]
 exact ⟨fun h => by rw [h], fun h => (W.Codec.inj codecC hd.vc hc.vc h).symm⟩
theorem decC_bad {l : List UInt8} {e : Int} (h : (decC l).2.2 = e) (he : e ≠ 0) : decC l = (default, 0, e) := by
 subst h
 by_cases h1 : (dC4 l).2.2 = 0
 · have : decC l = (mkC (dC4 l).1, (dC4 l).2.1, 0) := W.dM_0 (y := mkC (dC4 l).1) h1 rfl
   rw [this] at he
   exact absurd rfl he
 · have : decC l = (default, 0, (dC4 l).2.2) := W.dM_1 h1
   rw [this]
end
end Go.Proofs.YtmhliomemdhmiaaGreatDoor.E.Ca
namespace Go.Proofs.YtmhliomemdhmiaaGreatDoor.E
open Go.RowKit
set_option linter.unusedVariables false
theorem Pure.ro {P : Program} {f : FuncId} {ds : List V} {T z : Nat} {l : List (List V)} (h : Pure P f ds (.o T z l)) : Pure P f ds (.v (.sl l)) :=
 ⟨h.1, fun w M args hM hr => (h.2 w M args hM hr).mono fun e w' ⟨v, e1, ok, bel⟩ => ⟨v, e1, by
  obtain ⟨q1, xs, q2, q3, q4⟩ := ok
  show Rep w' M no v (.sl l)
  have hxl : xs.length = l.flatten.length := by rw [q2.1, flat_len q1]
  rcases q2.2 with ⟨rfl, e0⟩ | ⟨g, cap, cur, rfl, hB, hh, hnc, hcm, hcs', htk⟩
  · have h0 : l = [] := List.length_eq_zero_iff.1 e0
    subst h0
    exact .sl _ none 0 0 0 z [] (fun _ _ => undef) (Nat.le_refl _) (Nat.zero_le _) (fun h => by simp at h) (fun _ h => by simp at h) (fun i j cs x h => by simp at h) (fun i j cs x h => by simp at h)
  · refine .sl _ _ g 0 cap z l (fun i j => xs.getD (i * z + j) undef) hnc hcm (fun _ => ⟨rfl, fun hA => hB (hM g hA), ⟨cur, T, (0, 0), hh⟩⟩) q1 (fun i j cs x hi hj => ?_) (fun i j cs x hi hj => ?_)
    · have e1 := flat_get q1 hi hj
      have e2 := (List.getElem?_eq_some_iff.1 e1).1
      have e3 : xs[i * z + j]? = some (xs.getD (i * z + j) undef) := by rw [List.getD_eq_getElem?_getD, List.getElem?_eq_getElem (by omega)]; rfl
      have := row_cell q2 rfl e3
      rwa [show 0 + i * z + j = i * z + j by omega]
    · exact (q4 _ x (flat_get q1 hi hj)).mo ⟨Nat.le_refl _, fun _ _ _ => rfl, fun g e => .inl (.inl e), fun _ _ e => e⟩, bel⟩⟩
end Go.Proofs.YtmhliomemdhmiaaGreatDoor.E
namespace Go.Proofs.YtmhliomemdhmiaaGreatDoor
open Go.RowKit
theorem is64_of {n : Int} (h : (Lit.int .i64 n).wf = true) : W.Is64 n := by
 have := bounds_i64 h
 unfold W.Is64
 omega
end Go.Proofs.YtmhliomemdhmiaaGreatDoor
namespace Go.Proofs.YtmhliomemdhmiaaGreatDoor.E
open Go.RowKit
set_option linter.unusedVariables false
theorem cb_of {w : World} {b o : Nat} {v : Value} (h : w.cell? ⟨b, o, none⟩ = some v) : CB w b := by
 unfold World.cell? at h
 split at h
 · rename_i cs T fr hb
   exact ⟨cs, T, fr, hb⟩
 · cases h
def Rt (X : World → Value → Prop) (w : World) (e : Ending) (w' : World) : Prop := ∃ v, e = .returned v ∧ X w' v ∧ Below w.heap.size w w'
theorem back {P : Program} {f : FuncId} {ds : List V} {d : V} (h : Pure P f ds d) {w : World} {args : Array Value} (ha : Reps w (fun _ => False) no args ds) : Calls P f args w (Rt (fun w v => Rep w (fun _ => False) no v d) w) :=
 (h.2 w (fun _ => False) args (fun _ h => h.elim) ha).mono fun e w' h => h
theorem to_tt {w w' : World} {e : Ending} (h : Rt (fun w v => Rep w (fun _ => False) no v (bo true)) w e w') : e = .returned (.bool true) ∧ Below w.heap.size w w' := by
 obtain ⟨v, rfl, h1, h2⟩ := h
 exact ⟨by rw [Rep.k_inv h1], h2⟩
/-- A law of any arguments. -/
theorem lawG {f : FuncId} {us : List Value} {ds : List V} {w : World} (h : Pure PP f ds (bo true)) (hg : Glo w (fun _ => False)) (hl : us.length = ds.length) (hr : ∀ j, j < ds.length → Rep w (fun _ => False) no (us.getD j undef) (ds.getD j .un)) :
    Calls PP f us.toArray w fun e w' => e = .returned (.bool true) ∧ Below w.heap.size w w' :=
 (back h (reps_of hl hg hr)).mono fun _ _ => to_tt
theorem all4 {p : Nat → Prop} (h0 : p 0) (h1 : p 1) (h2 : p 2) (h3 : p 3) : ∀ j, j < 4 → p j := fun j hj => by
 match j, hj with
 | 0, _ => exact h0
 | 1, _ => exact h1
 | 2, _ => exact h2
 | 3, _ => exact h3
end Go.Proofs.YtmhliomemdhmiaaGreatDoor.E
namespace Go.Proofs.YtmhliomemdhmiaaGreatDoor.E
open Go.RowKit
set_option linter.unusedVariables false
/-- The cells of a type. -/
inductive Sh where
 | bb
 | ii (k : IntKind)
 | ss
 | row (e : List Sh)
def shapeF (g : TypeId → Option (List Sh)) (c : TypeId → Nat) : Nat → List Field → Option (List Sh)
 | _, [] => some []
 | o, f :: r => match g f.type, shapeF g c (o + c f.type) r with
   | some l, some m => match Nat.beq f.offset o && Nat.beq l.length (c f.type) with
     | true => some (l ++ m)
     | false => none
   | _, _ => none
def shape (P : Program) : Nat → TypeId → Option (List Sh)
 | 0, _ => none
 | n + 1, t => match P.underlying t with
   | some .bool => some [.bb]
   | some (.int k) => some [.ii k]
   | some .string => some [.ss]
   | some (.slice e) => match shape P n e with
     | some l => match Nat.beq l.length (P.cellsOf e) && Nat.blt 0 l.length with
       | true => some [.row l]
       | false => none
     | none => none
   | some (.struct fs) => match shapeF (shape P n) P.cellsOf 0 fs.toList with
     | some l => match Nat.beq l.length (P.cellsOf t) with
       | true => some l
       | false => none
     | none => none
   | _ => none
/-- What stands in such a cell. -/
inductive Fit : Sh → V → Prop
 | b (x : Bool) : Fit .bb (.k (.bool x))
 | i (k : IntKind) (n : Int) (h : (Lit.int k n).wf = true) : Fit (.ii k) (.k (.int k n))
 | s (x : ByteArray) (h : x.size ≤ maxLen) : Fit .ss (.k (.string x))
 | row (e : List Sh) (l : List (List V)) (h0 : l.length ≤ maxLen) (h1 : ∀ cs ∈ l, cs.length = e.length) (h2 : ∀ cs ∈ l, ∀ (j : Nat) (sh : Sh) (x : V), e[j]? = some sh → cs[j]? = some x → Fit sh x) : Fit (.row e) (.sl l)
def FitL (e : List Sh) (xs : List V) : Prop := xs.length = e.length ∧ ∀ (j : Nat) (sh : Sh) (x : V), e[j]? = some sh → xs[j]? = some x → Fit sh x
abbrev FA : Nat → Prop := fun _ => False
def RepL (w : World) (cs : List Value) (xs : List V) : Prop := ∀ (j : Nat) (v : Value) (d : V), cs[j]? = some v → xs[j]? = some d → Rep w FA no v d
theorem FitL.nil : FitL [] [] := ⟨rfl, fun j sh x h => by simp at h⟩
theorem FitL.one {q : Sh} {x : V} (h : Fit q x) : FitL [q] [x] := ⟨rfl, fun j sh y h1 h2 => by
 match j with
 | 0 => simp at h1 h2; subst h1; subst h2; exact h
 | j + 1 => simp at h1⟩
theorem FitL.app {e f : List Sh} {xs ys : List V} (h : FitL e xs) (g : FitL f ys) : FitL (e ++ f) (xs ++ ys) := by
 refine ⟨by rw [List.length_append, List.length_append, h.1, g.1], fun j sh x h1 h2 => ?_⟩
 by_cases hj : j < e.length
 · rw [List.getElem?_append_left hj] at h1
   rw [List.getElem?_append_left (by rw [h.1]; exact hj)] at h2
   exact h.2 j sh x h1 h2
 · rw [List.getElem?_append_right (by omega)] at h1
   rw [List.getElem?_append_right (by rw [h.1]; omega), h.1] at h2
   exact g.2 _ sh x h1 h2
section
variable {H : Type} {enc : TypeId × Value → H} {P : Program} {w : World}
theorem fields_rep {g : TypeId → Option (List Sh)} {c : TypeId → Nat} {α : Type} {tr : TypeId → List Value → Option α} {cs : List Value} (hg : ∀ t cs' x l, tr t cs' = some x → g t = some l → cs'.length = l.length ∧ ∃ xs, FitL l xs ∧ RepL w cs' xs) :
  ∀ (r : List Field) (o : Nat) (l : List Sh), shapeF g c o r = some l → (∀ f ∈ r, ∃ x, tr f.type ((cs.drop f.offset).take (c f.type)) = some x) → ∃ xs, FitL l xs ∧ RepL w (cs.drop o) xs
 | [], o, l, h, _ => by
  simp only [shapeF, Option.some.injEq] at h
  subst h
  exact ⟨[], FitL.nil, fun j v d _ h => by simp at h⟩
 | f :: r, o, l, h, ht => by
  simp only [shapeF] at h
  split at h
  · rename_i l1 l2 e1 e2
    split at h
    · rename_i hc
      simp only [Bool.and_eq_true, Nat.beq_eq] at hc
      injection h with h
      subst h
      obtain ⟨x, hx⟩ := ht f (List.mem_cons_self ..)
      obtain ⟨h1, xs, h2, h3⟩ := hg _ _ _ _ hx e1
      obtain ⟨ys, h4, h5⟩ := fields_rep hg r _ _ e2 fun f hf => ht f (List.mem_cons_of_mem _ hf)
      refine ⟨xs ++ ys, h2.app h4, fun j v d hv hd => ?_⟩
      rw [hc.1] at h3
      by_cases hj : j < l1.length
      · rw [List.getElem?_append_left (by rw [h2.1]; exact hj)] at hd
        refine h3 j v d ?_ hd
        rw [List.getElem?_take, if_pos (by omega)]
        exact hv
      · rw [List.getElem?_append_right (by rw [h2.1]; omega), h2.1] at hd
        refine h5 (j - l1.length) v d ?_ hd
        rw [List.getElem?_drop] at hv ⊢
        rw [show o + c f.type + (j - l1.length) = o + j by omega]
        exact hv
    · cases h
  · cases h
theorem trod_rep : ∀ (fuel n : Nat) (t : TypeId) (cs : List Value) (x : DataW H × List MemPlace) (l : List Sh), DataW.trod enc P w 0 (fun _ => true) true fuel t cs = some x → shape P n t = some l → cs.length = l.length ∧ ∃ xs, FitL l xs ∧ RepL w cs xs := by
 intro fuel
 induction fuel with
 | zero => intro n t cs x l h; simp [DataW.trod] at h
 | succ fuel ih =>
  intro n t cs x l h hs
  cases n with
  | zero => cases hs
  | succ n =>
   have one : ∀ {q : Sh} {v : Value} {d : V}, Fit q d → Rep w FA no v d → [v].length = [q].length ∧ ∃ xs, FitL [q] xs ∧ RepL w [v] xs := fun {q v d} h1 h2 => ⟨rfl, [d], FitL.one h1, fun j v' d' e1 e2 => by
    match j with
    | 0 => simp at e1 e2; subst e1; subst e2; exact h2
    | j + 1 => simp at e1⟩
   unfold shape at hs
   split at hs
   · rename_i hu
     injection hs with hs; subst hs
     unfold DataW.trod at h
     rw [hu] at h
     split at h <;> simp_all
     exact one (.b _) (.k _ _)
   · rename_i k hu
     injection hs with hs; subst hs
     unfold DataW.trod at h
     rw [hu] at h
     split at h <;> simp_all
     obtain ⟨⟨rfl, h1⟩, _⟩ := h
     exact one (.i _ _ h1) (.k _ _)
   · rename_i hu
     injection hs with hs; subst hs
     unfold DataW.trod at h
     rw [hu] at h
     split at h <;> simp_all
     exact one (.s _ h.1) (.k _ _)
   · rename_i e hu
     split at hs
     · rename_i l' hl'
       split at hs
       · rename_i hc
         simp only [Bool.and_eq_true, Nat.beq_eq, Nat.blt_eq] at hc
         injection hs with hs; subst hs
         rcases DataW.trod_slice hu h with ⟨rfl, _⟩ | ⟨a, len, cap, elems, rest, n', hn', rfl, rfl, hb, hl, hm, hlen, hel, hsp, hns⟩
         · exact one (.row l' [] (by simp) (by simp) (by simp)) (.sl _ none 0 0 0 l'.length [] (fun _ _ => undef) (Nat.zero_le _) (Nat.zero_le _) (by simp) (by simp) (by simp) (by simp))
         · obtain rfl : fuel = n' := by omega
           have he : ∀ i, i < len → ∃ xs, FitL l' xs ∧ ∀ j d, xs[j]? = some d → ∃ v, w.cell? (a.add (i * P.cellsOf e) |>.add j) = some v ∧ Rep w FA no v d := by
            intro i hi
            have hq := hel i hi
            rw [List.getElem?_eq_getElem (by omega)] at hq
            obtain ⟨cs', h1, h2⟩ := Option.bind_eq_some_iff.1 hq
            obtain ⟨h3, xs, h4, h5⟩ := ih n e cs' _ l' h2 hl'
            obtain ⟨_, h6, h7⟩ := World.cells?_some h1
            refine ⟨xs, h4, fun j d hd => ?_⟩
            have hjl := (List.getElem?_eq_some_iff.1 hd).1
            rw [h4.1] at hjl
            have hv : cs'[j]? = some cs'[j] := List.getElem?_eq_getElem (by omega)
            exact ⟨_, (h7 j (by omega)).trans hv, h5 j _ d hv hd⟩
           by_cases h0 : len = 0
           · subst h0
             exact one (.row l' [] (by simp) (by simp) (by simp)) (.sl _ (some a) 0 0 cap l'.length [] (fun _ _ => undef) (Nat.zero_le _) hm (by simp) (by simp) (by simp) (by simp))
           · have hch : ∃ F : Nat → List V, ∀ i, i < len → FitL l' (F i) ∧ ∀ j d, (F i)[j]? = some d → ∃ v, w.cell? (a.add (i * P.cellsOf e) |>.add j) = some v ∧ Rep w FA no v d :=
              ⟨fun i => if h : i < len then (he i h).choose else [], fun i hi => by simp only [dif_pos hi]; exact (he i hi).choose_spec⟩
             obtain ⟨F, hF⟩ := hch
             obtain ⟨b, o, spot⟩ := a
             have hspot : spot = none := by
              obtain ⟨h1, h2⟩ := hF 0 (by omega)
              have hlt : 0 < (F 0).length := by rw [h1.1]; exact hc.2
              obtain ⟨v, h3, _⟩ := h2 0 _ (List.getElem?_eq_getElem hlt)
              simpa [Addr.add] using World.cell?_spot h3
             subst hspot
             have hadd : ∀ i j : Nat, ((⟨b, o, none⟩ : Addr).add (i * P.cellsOf e)).add j = ⟨b, o + i * l'.length + j, none⟩ := fun i j => by rw [hc.1, Go.WideShapes.add_plain, Go.WideShapes.add_plain]
             let L : List (List V) := (List.range len).map F
             have hL : L.length = len := by simp [L]
             have hLi : ∀ i cs, L[i]? = some cs → i < len ∧ cs = F i := fun i cs hi => by
              have hlt := (List.getElem?_eq_some_iff.1 hi).1
              rw [hL] at hlt
              simp only [L, List.getElem?_map, List.getElem?_range hlt, Option.map_some, Option.some.injEq] at hi
              exact ⟨hlt, hi.symm⟩
             have hmem : ∀ cs ∈ L, ∃ i, i < len ∧ cs = F i := fun cs hcs => by
              obtain ⟨i, hi⟩ := List.getElem?_of_mem hcs
              exact ⟨i, hLi i cs hi⟩
             have hr : Rep w FA no (.slice (some ⟨b, o, none⟩) L.length cap) (.sl L) := by
              refine .sl _ _ b o cap l'.length L (fun i j => (w.cell? ⟨b, o + i * l'.length + j, none⟩).getD undef) (by omega) hm (fun _ => ⟨rfl, fun e => e, ?_⟩) (fun cs hcs => ?_) (fun i j cs x hi hj => ?_) (fun i j cs x hi hj => ?_)
              · obtain ⟨h1, h2⟩ := hF 0 (by omega)
                have hlt : 0 < (F 0).length := by rw [h1.1]; exact hc.2
                obtain ⟨v, h3, _⟩ := h2 0 _ (List.getElem?_eq_getElem hlt)
                rw [hadd] at h3
                exact cb_of h3
              · obtain ⟨i, hi, rfl⟩ := hmem cs hcs
                exact (hF i hi).1.1
              · obtain ⟨hi', rfl⟩ := hLi i cs hi
                obtain ⟨v, h3, _⟩ := (hF i hi').2 j x hj
                rw [hadd] at h3
                rw [h3]; rfl
              · obtain ⟨hi', rfl⟩ := hLi i cs hi
                obtain ⟨v, h3, h4⟩ := (hF i hi').2 j x hj
                rw [hadd] at h3
                rw [h3]
                exact h4
             rw [hL] at hr
             refine one (.row l' L (by omega) (fun cs hcs => ?_) (fun cs hcs j sh x h1 h2 => ?_)) hr
             · obtain ⟨i, hi, rfl⟩ := hmem cs hcs
               exact (hF i hi).1.1
             · obtain ⟨i, hi, rfl⟩ := hmem cs hcs
               exact (hF i hi).1.2 j sh x h1 h2
       · cases hs
     · cases hs
   · rename_i fs hu
     split at hs
     · rename_i l' hl'
       split at hs
       · rename_i hc
         have hc := Nat.eq_of_beq_eq_true hc
         injection hs with hs; subst hs
         obtain ⟨xs, n', hn', _, h1, h2, h3⟩ := DataW.trod_struct hu h
         obtain rfl : fuel = n' := by omega
         obtain ⟨ys, h4, h5⟩ := fields_rep (w := w) (c := P.cellsOf) (tr := fun t cs => DataW.trod enc P w 0 (fun _ => true) true fuel t cs) (cs := cs) (fun t cs' x l a b => ih n t cs' x l a b) fs.toList 0 l' hl' (fun f hf => by
          obtain ⟨i, hi⟩ := List.getElem?_of_mem hf
          have hi2 : fs[i]? = some f := by simpa using hi
          have hlt := (Array.getElem?_eq_some_iff.1 hi2).1
          have h6 := h3 i f hi2
          rw [List.getElem?_eq_getElem (by omega)] at h6
          exact ⟨_, h6⟩)
         exact ⟨by omega, ys, h4, by simpa using h5⟩
       · cases hs
     · cases hs
   · cases hs
/-- An argument of one cell. -/
theorem arg_1 {n : Nat} {t : TypeId} {v : Value} {d : DataW H} {ps : List MemPlace} {q : Sh} (h : DataW.Trod enc P w 0 (fun _ => true) true t v d ps) (hv : v.cells = #[v]) (hs : shape P n t = some [q]) : ∃ x, Fit q x ∧ Rep w FA no v x := by
 obtain ⟨fuel, hf⟩ := h
 rw [hv] at hf
 obtain ⟨_, xs, h1, h2⟩ := trod_rep fuel n t _ _ _ hf hs
 match xs, h1 with
 | [x], h1 => exact ⟨x, h1.2 0 q x rfl rfl, h2 0 v x rfl rfl⟩
end
/-- A row of ints. -/
theorem Fit.ints {x : V} (h : Fit (.row [.ii .i64]) x) : ∃ l : List Int, x = zl l ∧ ∀ n ∈ l, W.Is64 n := by
 cases h with
 | row e l h0 h1 h2 =>
  clear h0
  suffices h : ∃ l' : List Int, l = zs l' ∧ ∀ n ∈ l', W.Is64 n by
   obtain ⟨l', rfl, h⟩ := h
   exact ⟨l', rfl, h⟩
  induction l with
  | nil => exact ⟨[], rfl, by simp⟩
  | cons a r ih =>
   obtain ⟨l', rfl, h3⟩ := ih (fun cs h => h1 cs (List.mem_cons_of_mem _ h)) (fun cs h => h2 cs (List.mem_cons_of_mem _ h))
   have hl := h1 a (List.mem_cons_self ..)
   have hf := h2 a (List.mem_cons_self ..)
   match a, hl with
   | [y], _ =>
    have hy := hf 0 _ y rfl rfl
    cases hy with
    | i k n hw => exact ⟨n :: l', rfl, fun m hm => by
      rcases List.mem_cons.1 hm with rfl | hm
      · exact is64_of hw
      · exact h3 m hm⟩
theorem Fit.int {x : V} (h : Fit (.ii .i64) x) : ∃ n : Int, x = ni n ∧ W.Is64 n := by
 cases h with
 | i k n hw => exact ⟨n, rfl, is64_of hw⟩
theorem Fit.bool {x : V} (h : Fit .bb x) : ∃ b : Bool, x = bo b := by
 cases h with
 | b x => exact ⟨x, rfl⟩
end Go.Proofs.YtmhliomemdhmiaaGreatDoor.E
namespace Go.Proofs.YtmhliomemdhmiaaGreatDoor.E
open Go.RowKit
set_option linter.unusedVariables false
theorem Fit.bytes {x : V} (h : Fit (.row [.ii .u8]) x) : ∃ l : List UInt8, x = .sl (byL l) := by
 cases h with
 | row e l h0 h1 h2 =>
  clear h0
  suffices h : ∃ l' : List UInt8, l = byL l' by
   obtain ⟨l', rfl⟩ := h
   exact ⟨l', rfl⟩
  induction l with
  | nil => exact ⟨[], rfl⟩
  | cons a r ih =>
   obtain ⟨l', rfl⟩ := ih (fun cs h => h1 cs (List.mem_cons_of_mem _ h)) (fun cs h => h2 cs (List.mem_cons_of_mem _ h))
   have hl := h1 a (List.mem_cons_self ..)
   have hf := h2 a (List.mem_cons_self ..)
   match a, hl with
   | [y], _ =>
    have hy := hf 0 _ y rfl rfl
    cases hy with
    | i _ n hn =>
     have hb : 0 ≤ n ∧ n ≤ 255 := by
      have h3 : IntKind.u8.min ≤ n ∧ n ≤ IntKind.u8.max := by simpa [Lit.wf] using hn
      exact h3
     refine ⟨UInt8.ofNat n.toNat :: l', ?_⟩
     have : ((UInt8.ofNat n.toNat).toNat : Int) = n := by
      rw [UInt8.toNat_ofNat_of_lt' (by show n.toNat < 256; omega)]
      omega
     show [V.k (.int .u8 n)] :: byL l' = [V.k (.int .u8 ((UInt8.ofNat n.toNat).toNat : Int))] :: byL l'
     rw [this]
end Go.Proofs.YtmhliomemdhmiaaGreatDoor.E
