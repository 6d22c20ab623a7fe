/-
 THE LAW ClaimMerges: its walk, in parts.
-/
import Derived.Test.YthliihpeodohpaaGreatDoorDsJ
namespace Go.Proofs.YthliihpeodohpaaGreatDoor.E.Ca
open Go.RowKit
set_option linter.unusedVariables false
set_option linter.unusedSimpArgs false
section
variable {q r : CQ} {L C : List CQ} {i k n : Nat}
theorem cpN_mem (L : List CQ) : ∀ n, ∀ q ∈ cpN L n, q ∈ L
 | 0, q, h => by cases h
 | n + 1, q, h => by
  unfold cpN at h
  have ih := cpN_mem L n q
  split at h
  · rename_i x y hx hy
    split at h
    · exact ih h
    · rcases List.mem_append.1 h with h | h
      · exact ih h
      · rw [List.mem_singleton] at h; subst h; exact List.mem_of_getElem? hx
  · rename_i x hx hy
    rcases List.mem_append.1 h with h | h
    · exact ih h
    · rw [List.mem_singleton] at h; subst h; exact List.mem_of_getElem? hx
  · exact ih h
/-- The first claims of each name, in their order. -/
def sorted (L : List CQ) : List CQ := srt cmp2 (cpt (srt cmp1 L))
theorem sorted_sub (h : q ∈ sorted L) : q ∈ L := (srt_mem cmp1).1 (cpN_mem _ _ q ((srt_mem cmp2).1 h))
theorem sorted_le (L : List CQ) : (sorted L).length ≤ L.length := by
 unfold sorted
 rw [(srt_perm cmp2 _).length_eq]
 have := cp_len (srt cmp1 L) 0 (srt cmp1 L).length
 rw [Nat.zero_add, (srt_perm cmp1 L).length_eq] at this
 unfold cpt
 rw [(srt_perm cmp1 L).length_eq]
 have h0 : (cpN (srt cmp1 L) 0).length = 0 := rfl
 omega
noncomputable abbrev fS_ : Func := fnOf PP 7
noncomputable def sX (L : List CQ) (k : Nat) : St := at_ fS_ [(0, .sl (L.map dQ)), (3, .ow 0), (6, .sl (L.map dQ)), (7, ni L.length), (8, ni k)] [.rw TCl 35 ((L.take k).map dQ)]
theorem orI_le1 {x y : Int} (h : orI x y ≤ 0) : x ≤ 0 := by
 unfold orI at h
 split at h <;> omega
theorem cpN_nm (hs : L.Pairwise fun a b => cmp1 a b ≤ 0) : ∀ n, (cpN L n).Pairwise (fun a b => ordN a.cm.nm b.cm.nm < 0) ∧ ∀ a ∈ cpN L n, ∃ j, j < n ∧ L[j]? = some a
 | 0 => ⟨.nil, fun a h => by cases h⟩
 | n + 1 => by
  obtain ⟨ih1, ih2⟩ := cpN_nm hs n
  have up : ∀ a ∈ cpN L n, ∃ j, j < n + 1 ∧ L[j]? = some a := fun a ha => by
   obtain ⟨j, h1, h2⟩ := ih2 a ha
   exact ⟨j, by omega, h2⟩
  conv => arg 1; arg 2; unfold cpN
  conv => arg 2; ext a; unfold cpN
  split
  · rename_i x y hx hy
    have hn : n ≠ 0 := fun e => by rw [if_pos e] at hy; cases hy
    rw [if_neg hn] at hy
    by_cases e : x.cm.nm = y.cm.nm
    · rw [if_pos e]; exact ⟨ih1, up⟩
    · rw [if_neg e]
      refine ⟨List.pairwise_append.2 ⟨ih1, List.pairwise_singleton _ _, fun a ha b hb => ?_⟩, fun a ha => ?_⟩
      · rw [List.mem_singleton] at hb
        subst hb
        obtain ⟨j, h1, h2⟩ := ih2 a ha
        have pw := List.pairwise_iff_getElem.1 hs
        have leN : ∀ {a b : CQ}, cmp1 a b ≤ 0 → ordN a.cm.nm b.cm.nm ≤ 0 := fun {a b} h => orI_le1 h
        obtain ⟨l1, g1⟩ := List.getElem?_eq_some_iff.1 hy
        obtain ⟨l2, g2⟩ := List.getElem?_eq_some_iff.1 hx
        obtain ⟨l3, g3⟩ := List.getElem?_eq_some_iff.1 h2
        have p1 := leN (pw (n - 1) n l1 l2 (by omega))
        rw [g1, g2] at p1
        have p1' : ordN y.cm.nm b.cm.nm < 0 := by
         rcases Int.lt_or_eq_of_le p1 with h | h
         · exact h
         · exact absurd (ordN_eq h).symm e
        rcases Nat.lt_or_eq_of_le (show j ≤ n - 1 by omega) with hj | hj
        · have p2 := leN (pw j (n - 1) l3 l1 hj)
          rw [g3, g1] at p2
          exact ordN_cmp.le_lt p2 p1'
        · subst hj
          have : a = y := by rw [← g3, ← g1]
          rw [this]; exact p1'
      · rcases List.mem_append.1 ha with h | h
        · exact up a h
        · rw [List.mem_singleton] at h
          subst h
          exact ⟨n, by omega, hx⟩
  · rename_i x hx hy
    have hn : n = 0 := by
     rcases Nat.eq_zero_or_pos n with e | e
     · exact e
     · obtain ⟨l2, g2⟩ := List.getElem?_eq_some_iff.1 hx
       rw [if_neg (by omega), List.getElem?_eq_getElem (by omega)] at hy
       cases hy
    subst hn
    exact ⟨List.pairwise_singleton _ _, fun a ha => by rw [show cpN L 0 ++ [x] = [x] from rfl, List.mem_singleton] at ha; subst ha; exact ⟨0, by omega, hx⟩⟩
  · exact ⟨ih1, up⟩
theorem cpt_nm (L : List CQ) : (cpt (srt cmp1 L)).Pairwise (fun a b => ordN a.cm.nm b.cm.nm < 0) := (cpN_nm (srt_pair cmp1_cmp L) _).1
theorem e_csort (hL : ∀ q ∈ L, Sq q) (hn : L.length ≤ 10000) : Pure PP 7 [.sl (L.map dQ)] (.o TCl 35 ((sorted L).map dQ)) := by
 have ml : ((L.map dQ).length : Int) = (L.length : Int) := by rw [List.length_map]
 refine pf (by kernel_rfl) (.to mo_ [.ow 3 (.rw TCl 35 [])] [0, 3, 6, 7, 8] [0] 1 [.eqv 7 (ni ((L.map dQ).length : Int)) (ni (L.length : Int)) (by rw [ml])] (td' := lp fS_ 0) (σ' := sX L 0) ?_ (by kernel_rfl))
 refine Gd.loop (sX L) (fun k => k ≤ L.length) (fun k => L.length - k) ?_ 0 (Nat.zero_le _)
 intro k hk ih
 by_cases h : k < L.length
 · have lt : decide ((k : Int) < (L.length : Int)) = true := decide_eq_true (by omega)
   obtain ⟨q, hq⟩ : ∃ q, L[k]? = some q := ⟨_, List.getElem?_eq_getElem h⟩
   have hq2 := dQ_at hq
   have nx := ih (k + 1) h (by omega)
   have cp := e_copied q.cm (by have := (hL q (List.mem_of_getElem? hq)).n; show q.refs.length ≤ 1000; omega)
   have ap : (L.take k).map dQ ++ [dQ q] = (L.take (k + 1)).map dQ := by rw [List.take_add_one, hq, List.map_append]; rfl
   have al : ((L.take (k + 1)).map dQ).length ≤ 10000 := by rw [List.length_map, List.length_take]; omega
   unfold sX at nx ⊢
   generalize L.map dQ = M at *
   generalize (L.take k).map dQ = A at *
   generalize (L.take (k + 1)).map dQ = B at *
   exact .to mo_ [.mv 0 3] [0, 3, 6, 7, 8] [0] 1 [ye lt, .sel _ _ _ hq2, cl cp, .app _ _ _ 10000 ap (Nat.zero_lt_succ _) al, inc 17 k (by omega)] nx (by kernel_rfl)
 · have hk2 : k = L.length := by omega
   subst hk2
   have lt : decide ((L.length : Int) < (L.length : Int)) = false := decide_eq_false (by omega)
   have tk : (L.take L.length).map dQ = L.map dQ := by rw [List.take_length]
   have h1 := e_sort1 L hL (by omega)
   have l1 : (srt cmp1 L).length = L.length := (srt_perm cmp1 L).length_eq
   have hs1 : ∀ q ∈ cpt (srt cmp1 L), q ∈ L := fun q hq => (srt_mem cmp1).1 (cpN_mem _ _ q hq)
   have hnm : ∀ a ∈ cpt (srt cmp1 L), ∀ b ∈ cpt (srt cmp1 L), a.cm.nm = b.cm.nm → a = b := fun a ha b hb e => by
    have pw := List.pairwise_iff_getElem.1 (cpt_nm L)
    obtain ⟨i, hi, rfl⟩ := List.getElem_of_mem ha
    obtain ⟨j, hj, rfl⟩ := List.getElem_of_mem hb
    have irr : ordN (cpt (srt cmp1 L))[i].cm.nm (cpt (srt cmp1 L))[j].cm.nm = 0 := by rw [e]; exact ordN_cmp.refl _
    have irr2 : ordN (cpt (srt cmp1 L))[j].cm.nm (cpt (srt cmp1 L))[i].cm.nm = 0 := by rw [e]; exact ordN_cmp.refl _
    rcases Nat.lt_trichotomy i j with h | h | h
    · have := pw i j hi hj h; omega
    · subst h; rfl
    · have := pw j i hj hi h; omega
   have cl_ : (cpt (srt cmp1 L)).length ≤ L.length := by
    have := cp_len (srt cmp1 L) 0 (srt cmp1 L).length
    rw [Nat.zero_add] at this
    unfold cpt
    have h0 : (cpN (srt cmp1 L) 0).length = 0 := rfl
    omega
   have h2 := e_sort2 (cpt (srt cmp1 L)) (fun q hq => hL q (hs1 q hq)) hnm (by omega)
   have hc := e_compact (L := srt cmp1 L) l1 (by omega)
   unfold sX sorted
   rw [tk]
   generalize L.map dQ = M at *
   rcases hc with ⟨e, hc⟩ | hc
   · rw [e] at h2 ⊢
     unfold cD at hc
     generalize (srt cmp2 (srt cmp1 L)).map dQ = W at *
     generalize (srt cmp1 L).map dQ = R at *
     exact fi [na lt, .lend _ _ _ _ [0] h1, .lend _ _ _ _ [0] hc, .lend _ _ _ _ [0] h2] (by kernel_rfl) (by kernel_rfl)
   · unfold cE at hc
     generalize (srt cmp2 (cpt (srt cmp1 L))).map dQ = W at *
     generalize (cpt (srt cmp1 L)).map dQ = Q at *
     generalize (srt cmp1 L).map dQ = R at *
     exact fi [na lt, .lend _ _ _ _ [0] h1, .lend _ _ _ _ [0] hc, .lend _ _ _ _ [1] h2] (by kernel_rfl) (by kernel_rfl)
end
end Go.Proofs.YthliihpeodohpaaGreatDoor.E.Ca
namespace Go.Proofs.YthliihpeodohpaaGreatDoor.E.Ca
open Go.RowKit
set_option linter.unusedVariables false
set_option linter.unusedSimpArgs false
section
variable {q r : CQ} {L M N A B C : List CQ} {i k n : Nat}
/-- A claim is the first of its name. -/
def Fst (L : List CQ) (q : CQ) : Prop := q ∈ L ∧ ∀ r ∈ L, r.cm.nm = q.cm.nm → cmp1 q r ≤ 0
theorem cpN_at (L : List CQ) : ∀ n, ∀ a ∈ cpN L n, ∃ j, j < n ∧ L[j]? = some a ∧ ∀ y, 0 < j → L[j - 1]? = some y → ¬ a.cm.nm = y.cm.nm
 | 0, a, h => by cases h
 | n + 1, a, h => by
  have ih := cpN_at L n a
  have up : a ∈ cpN L n → ∃ j, j < n + 1 ∧ L[j]? = some a ∧ ∀ y, 0 < j → L[j - 1]? = some y → ¬ a.cm.nm = y.cm.nm := fun ha => by
   obtain ⟨j, h1, h2⟩ := ih ha
   exact ⟨j, by omega, h2⟩
  unfold cpN at h
  split at h
  · rename_i x y hx hy
    have hn : n ≠ 0 := fun e => by rw [if_pos e] at hy; cases hy
    rw [if_neg hn] at hy
    split at h
    · exact up h
    · rename_i e
      rcases List.mem_append.1 h with h | h
      · exact up h
      · rw [List.mem_singleton] at h
        subst h
        refine ⟨n, by omega, hx, fun z _ hz => ?_⟩
        rw [hy] at hz
        injection hz with hz
        subst hz
        exact e
  · rename_i x hx hy
    rcases List.mem_append.1 h with h | h
    · exact up h
    · rw [List.mem_singleton] at h
      subst h
      refine ⟨n, by omega, hx, fun z h0 hz => ?_⟩
      rw [if_neg (by omega), hz] at hy
      cases hy
  · exact up h
theorem cpN_cov (L : List CQ) : ∀ n j q, j < n → L[j]? = some q → ∃ a ∈ cpN L n, a.cm.nm = q.cm.nm
 | 0, j, q, h, _ => by omega
 | n + 1, j, q, h, hq => by
  have ih := cpN_cov L n
  have sub : ∀ a, a ∈ cpN L n → a ∈ cpN L (n + 1) := fun a ha => by
   unfold cpN
   split
   · split
     · exact ha
     · exact List.mem_append_left _ ha
   · exact List.mem_append_left _ ha
   · exact ha
  rcases Nat.lt_or_ge j n with hj | hj
  · obtain ⟨a, h1, h2⟩ := ih j q hj hq
    exact ⟨a, sub a h1, h2⟩
  · have : j = n := by omega
    subst this
    by_cases h0 : j = 0
    · subst h0
      exact ⟨q, by rw [cp_one hq]; exact List.mem_singleton.2 rfl, rfl⟩
    · obtain ⟨l2, g2⟩ := List.getElem?_eq_some_iff.1 hq
      have hr : L[j - 1]? = some L[j - 1] := List.getElem?_eq_getElem (by omega)
      by_cases e : q.cm.nm = L[j - 1].cm.nm
      · obtain ⟨a, h1, h2⟩ := ih (j - 1) _ (by omega) hr
        exact ⟨a, sub a h1, by rw [h2, e]⟩
      · exact ⟨q, by rw [cp_new (by omega) hq hr e]; exact List.mem_append_right _ (List.mem_singleton.2 rfl), rfl⟩
theorem cmp1_nm (h : cmp1 q r ≤ 0) : ordN q.cm.nm r.cm.nm ≤ 0 := orI_le1 h
theorem sorted_fst (h : q ∈ sorted L) : Fst L q := by
 have hm := (srt_mem cmp2).1 h
 obtain ⟨j, h1, h2, h3⟩ := cpN_at _ _ q hm
 refine ⟨sorted_sub h, fun r hr e => ?_⟩
 obtain ⟨i, hi⟩ := List.getElem?_of_mem ((srt_mem cmp1).2 hr)
 obtain ⟨l1, g1⟩ := List.getElem?_eq_some_iff.1 h2
 obtain ⟨l2, g2⟩ := List.getElem?_eq_some_iff.1 hi
 have pw := List.pairwise_iff_getElem.1 (srt_pair cmp1_cmp L)
 rcases Nat.lt_trichotomy i j with hij | hij | hij
 · exfalso
   have p1 : ordN r.cm.nm ((srt cmp1 L)[j - 1]'(by omega)).cm.nm ≤ 0 := by
    rcases Nat.lt_or_eq_of_le (show i ≤ j - 1 by omega) with hj | hj
    · have := cmp1_nm (pw i (j - 1) l2 (by omega) hj)
      rwa [g2] at this
    · subst hj
      rw [g2, ordN_cmp.refl]
      exact Int.le_refl _
   have p2 : ordN ((srt cmp1 L)[j - 1]'(by omega)).cm.nm q.cm.nm ≤ 0 := by
    have := cmp1_nm (pw (j - 1) j (by omega) l1 (by omega))
    rwa [g1] at this
   rw [e] at p1
   have n1 := ordN_cmp.neg q.cm.nm ((srt cmp1 L)[j - 1]'(by omega)).cm.nm
   exact h3 _ (by omega) (List.getElem?_eq_getElem (by omega)) (ordN_eq (by omega))
 · subst hij
   have : q = r := by rw [← g1, ← g2]
   rw [this, cmp1_cmp.refl]
   exact Int.le_refl _
 · have := pw j i l1 l2 hij
   rwa [g1, g2] at this
theorem sorted_cov (hr : r ∈ L) : ∃ a ∈ sorted L, a.cm.nm = r.cm.nm ∧ cmp1 a r ≤ 0 := by
 obtain ⟨i, hi⟩ := List.getElem?_of_mem ((srt_mem cmp1).2 hr)
 obtain ⟨a, h1, h2⟩ := cpN_cov _ (srt cmp1 L).length i r (List.getElem?_eq_some_iff.1 hi).1 hi
 have hm : a ∈ sorted L := (srt_mem cmp2).2 h1
 exact ⟨a, hm, h2, (sorted_fst hm).2 r hr h2.symm⟩
theorem fst_sorted (hL : ∀ q ∈ L, Sq q) (h : Fst L q) : q ∈ sorted L := by
 obtain ⟨a, h1, h2, h3⟩ := sorted_cov h.1
 have h4 := h.2 a (sorted_sub h1) h2
 have h5 := cmp1_cmp.neg a q
 have : a = q := cmp1_eq (hL a (sorted_sub h1)) (hL q h.1) (by omega)
 rwa [this] at h1
theorem sorted_pw (L : List CQ) : (sorted L).Pairwise fun a b => cmp2 a b < 0 := by
 have h1 := srt_pair cmp2_cmp (cpt (srt cmp1 L))
 have h2 : (sorted L).Pairwise fun a b => ¬ a.cm.nm = b.cm.nm := by
  refine (srt_perm cmp2 (cpt (srt cmp1 L))).symm.pairwise ((cpt_nm L).imp fun {a b} h e => ?_) fun {a b} h e => h e.symm
  rw [e, ordN_cmp.refl] at h
  omega
 refine (List.Pairwise.and h1 h2).imp fun {a b} h => ?_
 rcases Int.lt_or_eq_of_le h.1 with h3 | h3
 · exact h3
 · exact absurd (cmp2_nm h3) h.2
theorem strict_eq {f : CQ → CQ → Int} (hf : Cmp3 f) : ∀ {l l' : List CQ}, l.Pairwise (fun a b => f a b < 0) → l'.Pairwise (fun a b => f a b < 0) → (∀ a, a ∈ l ↔ a ∈ l') → l = l'
 | [], [], _, _, _ => rfl
 | [], b :: u, _, _, h => absurd ((h b).2 (List.mem_cons_self ..)) (by simp)
 | a :: t, [], _, _, h => absurd ((h a).1 (List.mem_cons_self ..)) (by simp)
 | a :: t, b :: u, h1, h2, h => by
  obtain ⟨a1, a2⟩ := List.pairwise_cons.1 h1
  obtain ⟨b1, b2⟩ := List.pairwise_cons.1 h2
  have e : a = b := by
   rcases List.mem_cons.1 ((h a).1 (List.mem_cons_self ..)) with e | e
   · exact e
   · rcases List.mem_cons.1 ((h b).2 (List.mem_cons_self ..)) with e2 | e2
     · exact e2.symm
     · have h3 := a1 b e2
       have h4 := b1 a e
       have := hf.neg a b
       omega
  subst e
  have irr : ∀ {x : CQ}, ¬ f x x < 0 := fun {x} h => by rw [hf.refl] at h; omega
  rw [strict_eq hf a2 b2 fun x => ⟨fun hx => ?_, fun hx => ?_⟩]
  · rcases List.mem_cons.1 ((h x).1 (List.mem_cons_of_mem _ hx)) with e | e
    · subst e; exact absurd (a1 _ hx) irr
    · exact e
  · rcases List.mem_cons.1 ((h x).2 (List.mem_cons_of_mem _ hx)) with e | e
    · subst e; exact absurd (b1 _ hx) irr
    · exact e
/-- Fewer claims, of which each other is a repetition or a later one. -/
theorem sorted_eq (hN : ∀ q ∈ N, Sq q) (h1 : ∀ q ∈ M, q ∈ N) (h2 : ∀ r ∈ N, ∃ a ∈ M, a.cm.nm = r.cm.nm ∧ cmp1 a r ≤ 0) : sorted M = sorted N := by
 refine strict_eq cmp2_cmp (sorted_pw M) (sorted_pw N) fun q => ⟨fun h => fst_sorted hN ?_, fun h => fst_sorted (fun q hq => hN q (h1 q hq)) ?_⟩
 · have hf := sorted_fst h
   refine ⟨h1 q hf.1, fun r hr e => ?_⟩
   obtain ⟨a, k1, k2, k3⟩ := h2 r hr
   exact cmp1_cmp.tr q a r (hf.2 a k1 (k2.trans e)) k3
 · have hf := sorted_fst h
   obtain ⟨a, k1, k2, k3⟩ := h2 q hf.1
   have k4 := hf.2 a (h1 a k1) k2
   have k5 := cmp1_cmp.neg a q
   have e : a = q := cmp1_eq (hN a (h1 a k1)) (hN q hf.1) (by omega)
   rw [e] at k1
   exact ⟨k1, fun r hr e => hf.2 r (h1 r hr) e⟩
theorem sorted_same (hN : ∀ q ∈ N, Sq q) (h : ∀ q, q ∈ M ↔ q ∈ N) : sorted M = sorted N :=
 sorted_eq hN (fun q hq => (h q).1 hq) fun r hr => ⟨r, (h r).2 hr, rfl, by rw [cmp1_cmp.refl]; exact Int.le_refl _⟩
theorem self_cov {r : CQ} (h : r ∈ M) : ∃ a ∈ M, a.cm.nm = r.cm.nm ∧ cmp1 a r ≤ 0 := ⟨r, h, rfl, by rw [cmp1_cmp.refl]; exact Int.le_refl _⟩
theorem sorted_one (h : ∀ q ∈ A ++ B, Sq q) : sorted (sorted A ++ B) = sorted (A ++ B) :=
 sorted_eq h (fun q hq => by
  rcases List.mem_append.1 hq with hq | hq
  · exact List.mem_append_left _ (sorted_sub hq)
  · exact List.mem_append_right _ hq) fun r hr => by
  rcases List.mem_append.1 hr with hr | hr
  · obtain ⟨a, h1, h2⟩ := sorted_cov hr
    exact ⟨a, List.mem_append_left _ h1, h2⟩
  · exact self_cov (List.mem_append_right _ hr)
theorem sorted_two (h : ∀ q ∈ A ++ B, Sq q) : sorted (sorted B ++ sorted A) = sorted (A ++ B) :=
 sorted_eq h (fun q hq => by
  rcases List.mem_append.1 hq with hq | hq
  · exact List.mem_append_right _ (sorted_sub hq)
  · exact List.mem_append_left _ (sorted_sub hq)) fun r hr => by
  rcases List.mem_append.1 hr with hr | hr
  · obtain ⟨a, h1, h2⟩ := sorted_cov hr
    exact ⟨a, List.mem_append_right _ h1, h2⟩
  · obtain ⟨a, h1, h2⟩ := sorted_cov hr
    exact ⟨a, List.mem_append_left _ h1, h2⟩
theorem sorted_idem (h : ∀ q ∈ A, Sq q) : sorted (sorted A) = sorted A :=
 sorted_eq h (fun q hq => sorted_sub hq) fun r hr => sorted_cov hr
theorem sorted_other (h : ∀ q ∈ A, Sq q) (k : Nat) : sorted (A.reverse ++ A.drop k) = sorted A :=
 sorted_same h fun q => by
  rw [List.mem_append, List.mem_reverse]
  exact ⟨fun h => h.elim id List.mem_of_mem_drop, .inl⟩
end
end Go.Proofs.YthliihpeodohpaaGreatDoor.E.Ca
namespace Go.Proofs.YthliihpeodohpaaGreatDoor.E
open Go.RowKit
set_option linter.unusedVariables false
set_option linter.unusedSimpArgs false
section
variable {P : Program} {w : World}
theorem x_apw1 {T e b j n bytes N : Nat} {l l2 l' : List (List V)} (hT : P.underlying T = some (.slice e)) (hap : apT P e = some (n, bytes)) (hbj : b < j) (happ : l ++ l2 = l') (h0 : 0 < l2.length) (hn : l'.length ≤ N) (hlim : apLim N bytes = true) (hz : ∀ cs ∈ l2, cs.length = n ∧ cs.all one = true) :
  Ext P (mkAq T) [.ow b, .sl l2] [(b, .rw e n l)] [(j, .rw e n l'), (b, .dead)] (.ow j) := by
 intro B M h m w a o xs ho K hl hr hrd hws
 obtain ⟨x, y, rfl⟩ := two_of hl
 have hx := hr 0 x _ rfl rfl
 have hy := hr 1 y _ rfl rfl
 have hb : h b = .rw e n l := hrd (b, .rw e n l) (List.mem_singleton.2 rfl)
 obtain ⟨hj1, hj2⟩ := hws j (by simp) (by simp; omega)
 let a' : Act := { a with tmps := #[a.eval x, a.eval y] }
 have hlen : (apS b j (.rw e n l) l2).h.length = j := by simp [apS]
 have hho : (apS b j (.rw e n l) l2).ho b = .rw e n l := by simp [apS, St.ho, hbj]
 have e0 : aop P (apO T o) (apS b j (.rw e n l) l2) ([.aps l l2 l' N n happ h0 hn hz] : List (Fa P)) = some ⟨.ow j, [(j, .rw e n l'), (b, .dead)], [b], [], [([.sl l, .sl l2], [.sl l, .sl l2])]⟩ := by
  have n1 : Nat.beq T T = true := Nat.beq_refl T
  have n2 : Nat.beq n n = true := Nat.beq_refl n
  have n3 : Nat.beq e e = true := Nat.beq_refl e
  have s1 : (apS b j (.rw e n l) l2).evT P T (.tmp 0) = .ow b := rfl
  have s2 : (apS b j (.rw e n l) l2).ev (.tmp 1) = .sl l2 := rfl
  show (match P.underlying T with
       | some (.slice e) => match Nat.beq T T, apT P e with
         | true, some (n, bytes) => appV (apS b j (.rw _ _ l) l2) e n bytes ((apS b j (.rw _ _ l) l2).evT P T (.tmp 0)) ((apS b j (.rw _ _ l) l2).ev (.tmp 1)) _
         | _, _ => none
       | _ => none) = _
  rw [hT]
  simp only [n1, hap, s1, s2, appV, hho, n2, n3, hlim, hlen, Bool.and_self]
 have hop : Opd w (Av M h m) m (apO T o) a' (apS b j (.rw e n l) l2) := by
  refine ⟨fun t ht => ?_, K.gl⟩
  have : t = 0 ∨ t = 1 := by simpa [looks, apO, mkAq, Op.operands, Call.operands] using ht
  rcases this with rfl | rfl
  · exact hx
  · exact hy
 have G := append_ok (o := apO T o) (a := a') K rfl rfl e0 (fun p hp => by rw [List.mem_singleton.1 hp]) hop (fun c hc => by rw [List.mem_singleton.1 hc, hb, hho]) (fun c hc hlt => by
   rw [hlen] at hlt
   simp only [List.map_cons, List.map_nil, List.mem_cons, List.not_mem_nil, or_false] at hc
   rcases hc with rfl | rfl
   · omega
   · rw [hb, hho]) (fun c hc hle => by
   rw [hlen] at hle
   simp only [List.map_cons, List.map_nil, List.mem_cons, List.not_mem_nil, or_false] at hc
   rcases hc with rfl | rfl
   · exact ⟨hj1, hj2⟩
   · omega)
 have heq : execOp a'.eval (apO T o) = execOp a.eval o := by
  have e1 : a'.eval (.tmp 0) = a.eval x := rfl
  have e2 : a'.eval (.tmp 1) = a.eval y := rfl
  simp [execOp, apO, mkAq, ho, resolve, e1, e2, invoke, builtin]
 unfold Goal_ Exec at G
 rw [heq] at G
 exact G
/-- A row of the call's own, and what is appended to it, which may have no elements. -/
theorem x_apw {T e b j n bytes N : Nat} {l l2 l' : List (List V)} (hT : P.underlying T = some (.slice e)) (hap : apT P e = some (n, bytes)) (hbj : b < j) (happ : l ++ l2 = l') (hn : l'.length ≤ N) (hlim : apLim N bytes = true) (hz : ∀ cs ∈ l2, cs.length = n ∧ cs.all one = true) :
  Ext P (mkAq T) [.ow b, .sl l2] [(b, .rw e n l)] [(j, .rw e n l'), (b, .dead)] (.ow j) := by
 by_cases h0 : 0 < l2.length
 · exact x_apw1 hT hap hbj happ h0 hn hlim hz
 have hl2 : l2 = [] := List.eq_nil_of_length_eq_zero (by omega)
 subst hl2
 rw [List.append_nil] at happ
 subst happ
 intro B M h m w a o xs ho K hl hr hrd hws
 obtain ⟨x, y, rfl⟩ := two_of hl
 have hx := hr 0 x _ rfl rfl
 have hy := hr 1 y _ rfl rfl
 have hb : h b = .rw e n l := hrd (b, .rw e n l) (List.mem_singleton.2 rfl)
 obtain ⟨hj1, hj2⟩ := hws j (by simp) (by simp; omega)
 simp only [mkAq, List.getD_cons_zero, List.getD_cons_succ] at ho
 obtain ⟨i, z, i1, i2, i3, i4, i5, i6⟩ := apT_of hap
 have hs : szT P e = some i.size := by unfold szT; rw [i1]; rfl
 obtain ⟨v1, xs1, h1, h2, h3, h4, h5⟩ := K.rw b e n l hb
 generalize hu : a.eval x = u at hx
 generalize hv : a.eval y = v at hy
 cases hx with
 | ow _ _ ad n' c hm =>
  rw [h1] at hm
  injection hm with hm
  subst hm
  have hle : n' ≤ c := by
   rcases h3.2 with ⟨e1, e2⟩ | ⟨g, cap, cur, e1, _, _, e2, _⟩
   · injection e1 with e1 e3 e4; omega
   · injection e1 with e1 e3 e4; omega
  have hbu : E.blk (.slice ad n' c) = (Value.slice ad n' c).ownBlock := by
   rcases h3.2 with ⟨e1, e2⟩ | ⟨g, cap, cur, e1, _, _, e2, _⟩
   · rw [e1]; rfl
   · rw [e1]; rfl
  obtain ⟨K2, M2⟩ := K.app (i := j) (x := .rw e n l) (u' := .slice ad n' c) (w' := w) (by rw [hb]; rfl) h1 hbu (by omega) hj1 hj2 ⟨rfl, rfl, rfl, Nat.le_refl _, fun _ _ _ => rfl⟩ (fun g e => .inl e) (fun _ _ e => by cases e) (fun T' z' l2 e => by
   injection e with e1 e2 e3
   subst e1; subst e2; subst e3
   exact ⟨xs1, h2, h3, h4, h5⟩) rfl
  cases hy with
  | sl _ ad2 b2 o2 c2 z2 _ us g1 g2 g3 g4 g5 g6 =>
   refine Exec.val (u := .slice ad n' c) (w' := w) ?_ ⟨upd m j (some (.slice ad n' c)), K2, .ow _ _ _ _ _ upd_eq, M2, Bl.refl _ _, fun k hk => ?_⟩
   · have := append_none (P := P) (w := w) (ty := o.type) (ad := ad) (X := ad2) (c2 := c2) hT hs hle
     simp [execOp, ho, resolve, invoke, builtin, hu, hv, this]
   · by_cases hkj : k = j
     · exact .inr (by simp [hkj])
     · rw [upd_ne hkj] at hk
       exact .inl hk
end
end Go.Proofs.YthliihpeodohpaaGreatDoor.E
namespace Go.Proofs.YthliihpeodohpaaGreatDoor.E.Ca
open Go.RowKit
set_option linter.unusedVariables false
set_option linter.unusedSimpArgs false
section
variable {q r : CQ} {L M N A B C : List CQ} {i k n : Nat}
noncomputable abbrev fSA : Func := fnOf PP 12
/-- A list of claims is the same as itself. -/
theorem e_sameAll (L : List CQ) : Pure PP 12 [.sl (L.map dQ), .sl (L.map dQ)] (bo true) := by
 refine .len 0 (l := L.map dQ) (by kernel_rfl) rfl fun hm => ?_
 rw [List.length_map] at hm
 unfold maxLen at hm
 have ne : ((((L.map dQ).length : Int) != ((L.map dQ).length : Int)) : Bool) = false := by simp
 have el : ((L.map dQ).length : Int) = (L.length : Int) := by rw [List.length_map]
 let X : Nat → St := fun k => at_ fSA [(0, .sl (L.map dQ)), (1, .sl (L.map dQ)), (5, ni k)] []
 refine pf (by kernel_rfl) (.to mo_ [] [0, 1, 5] [] 0 [na ne] (td' := lp fSA 0) (σ' := X 0) ?_ (by kernel_rfl))
 refine Gd.loop X (fun k => k ≤ L.length) (fun k => L.length - k) ?_ 0 (Nat.zero_le _)
 intro k hk ih
 by_cases h : k < L.length
 · have lt : decide ((k : Int) < ((L.map dQ).length : Int)) = true := decide_eq_true (by omega)
   obtain ⟨q, hq⟩ : ∃ q, L[k]? = some q := ⟨_, List.getElem?_eq_getElem h⟩
   have hq2 := dQ_at hq
   have nx := ih (k + 1) h (by omega)
   have sm := e_csame6 q q
   rw [decide_eq_true (eqP_iff.2 rfl)] at sm
   exact .to mo_ [] [0, 1, 5] [] 0 [ye lt, .sel _ _ _ hq2, .sel _ _ _ hq2, cl sm, nf, inc 16 k (by omega)] nx (by kernel_rfl)
 · have lt : decide ((k : Int) < ((L.map dQ).length : Int)) = false := decide_eq_false (by omega)
   exact fi [na lt] (by kernel_rfl) (by kernel_rfl)
end
end Go.Proofs.YthliihpeodohpaaGreatDoor.E.Ca
namespace Go.Proofs.YthliihpeodohpaaGreatDoor.E.Ca
open Go.RowKit
set_option linter.unusedVariables false
set_option linter.unusedSimpArgs false
section
variable {q r : CQ} {A B C L S O : List CQ} {a i k n : Nat} {l m : List Int} {turn : Int}
noncomputable abbrev fML : Func := fnOf PP 4
abbrev GML (td : List Item) (σ : St) : Prop := Gd PP 4 (bo true) td σ
abbrev slQ (L : List CQ) : V := .sl (L.map dQ)
/-- Both lists, and all claims. -/
noncomputable def mS0 (A B C : List CQ) (turn : Int) : St := at_ fML [(2, ni turn), (7, slQ A), (8, slQ B), (9, slQ C)] []
noncomputable def mS1 (A B C S : List CQ) (a k : Nat) : St := at_ fML [(7, slQ A), (8, slQ B), (9, slQ C), (10, slQ S), (11, .ow 0), (12, ni a), (13, ni ((k : Int) - 1))] [.rw TCl 35 ((C.drop k).reverse.map dQ)]
noncomputable def mS2 (A B C S O : List CQ) : St := at_ fML [(7, slQ A), (8, slQ B), (9, slQ C), (10, slQ S), (11, slQ O)] []
noncomputable def mS3 (C S O : List CQ) : St := at_ fML [(9, slQ C), (10, slQ S), (11, slQ O), (14, slQ S), (15, slQ S)] []
noncomputable def mS4 (C S : List CQ) (i : Nat) : St := at_ fML [(9, slQ C), (10, slQ S), (16, ni i)] []
noncomputable def mS5 (C S : List CQ) (i : Nat) : St := at_ fML [(9, slQ C), (10, slQ S), (18, ni i)] []
theorem dQs_ok (L : List CQ) : ∀ cs ∈ L.map dQ, cs.length = 35 ∧ cs.all one = true := fun cs h => by
 obtain ⟨q, _, rfl⟩ := List.mem_map.1 h
 exact dQ_ok q
theorem dQs_z (L : List CQ) : ∀ cs ∈ L.map dQ, cs.length = 35 := fun cs h => (dQs_ok L cs h).1
noncomputable def bC : Nat := match apT PP TCl with
 | some p => p.2
 | none => 0
theorem bC_ok : apT PP TCl = some (35, bC) := by kernel_rfl
theorem bC_lim : apLim 2000 bC = true := by kernel_rfl
theorem apw {b j : Nat} (hbj : b < j) (A B : List CQ) (hn : (A ++ B).length ≤ 2000) : Ext PP (mkAq 23) [.ow b, slQ B] [(b, .rw TCl 35 (A.map dQ))] [(j, .rw TCl 35 ((A ++ B).map dQ)), (b, .dead)] (.ow j) :=
 x_apw (e := TCl) (n := 35) (bytes := bC) (N := 2000) (by kernel_rfl) bC_ok hbj (by rw [List.map_append]) (by rw [List.length_map]; exact hn) bC_lim (dQs_ok B)
theorem apz {b j : Nat} (hbj : b < j) (A B : List CQ) (hn : (A ++ B).length ≤ 2000) : Ext PP (mkAq 23) [.ow b, slQ B] [(b, .rw TCl 35 (A.map dQ))] [(j, .dead), (b, .dead)] (slQ (A ++ B)) :=
 x_apz (e := TCl) (n := 35) (bytes := bC) (N := 2000) (by kernel_rfl) bC_ok hbj (by rw [List.map_append]) (by rw [List.length_map]; exact hn) bC_lim (dQs_ok B)
theorem some_cq (l : List Int) : ∃ A : List CQ, (someL l).map dC = A.map dQ ∧ A.length = (someL l).length ∧ ∀ q ∈ A, Sq q := by
 have h : ∀ T : List CM, (∀ c ∈ T, ∃ q, Gq c q ∧ q.refs.length ≤ 10) → ∃ A : List CQ, T.map dC = A.map dQ ∧ A.length = T.length ∧ ∀ q ∈ A, Sq q := by
  intro T
  induction T with
  | nil => exact fun _ => ⟨[], rfl, rfl, fun q h => by cases h⟩
  | cons c r ih =>
   intro h
   obtain ⟨A, h1, h2, h3⟩ := ih fun c hc => h c (List.mem_cons_of_mem _ hc)
   obtain ⟨q, ⟨e, s⟩, _⟩ := h c (List.mem_cons_self ..)
   refine ⟨q :: A, ?_, by simp [h2], fun x hx => ?_⟩
   · rw [List.map_cons, List.map_cons, h1, e]; rfl
   · rcases List.mem_cons.1 hx with rfl | hx
     · exact s
     · exact h3 x hx
 exact h _ fun c hc => all_gq (List.mem_append_left _ hc)
theorem e_sortR (hL : ∀ q ∈ L, Sq q) (hn : L.length ≤ 10000) : Pure PP 7 [slQ L] (slQ (sorted L)) := Pure.ro (e_csort hL hn)
/-- The start. -/
theorem ml_0 (hl : ∀ x ∈ l, W.Is64 x) (hm : ∀ x ∈ m, W.Is64 x) (h1 : (someL l).map dC = A.map dQ) (h2 : (someL m).map dC = B.map dQ) (hn : (A ++ B).length ≤ 40) (next : GML (rg fML 4) (mS0 A B (A ++ B) turn)) : Pure PP 4 [zl l, zl m, ni turn] (bo true) := by
 have c1 := Pure.ro (e_some hl)
 have c2 := Pure.ro (e_some hm)
 rw [h1] at c1
 rw [h2] at c2
 have a1 := apw (b := 0) (j := 1) (by omega) [] A (by rw [List.length_append] at hn; simp; omega)
 have a2 := apw (b := 1) (j := 2) (by omega) ([] ++ A) B (by rw [List.nil_append]; omega)
 rw [List.nil_append] at a2
 exact pf (by kernel_rfl) (.to mo_ [.fz 9] [2, 7, 8, 9] [] 0 [cl c1, cl c2, .ext (some 25) _ _ _ _ _ a1, .ext (some 27) _ _ _ _ _ a2] next (by kernel_rfl))
theorem ml_1 (hC : ∀ q ∈ C, Sq q) (hn : C.length ≤ 40) (ht : W.Is64 turn) (next : ∀ a : Nat, a ≤ C.length → GML (lp fML 0) (mS1 A B C (sorted C) a C.length)) : GML (rg fML 4) (mS0 A B C turn) := by
 have c := e_sortR hC (by omega)
 have ar := e_around ht C.length
 have ri := rnd_in turn C.length
 obtain ⟨a, ha⟩ : ∃ a : Nat, rnd turn C.length = (a : Int) := ⟨(rnd turn C.length).toNat, by omega⟩
 rw [ha] at ar ri
 have nx := next a (by omega)
 have e33 : ni (IntKind.i64.wrap (((C.map dQ).length : Int) + 1)) = ni ((C.length + 1 : Nat) : Int) := by rw [List.length_map, inc_ (by omega)]
 have ll : (C.map dQ).length = C.length := List.length_map ..
 unfold mS1 at nx
 rw [List.drop_length] at nx
 unfold mS0
 unfold slQ at *
 exact .to mo_ [.ow 11 (.rw TCl 35 [])] [7, 8, 9, 10, 11, 12, 13] [0] 1 [cl c, .eqv 33 _ _ e33, cl ar, wq 37 (((C.map dQ).length : Int) - 1) ((C.length : Int) - 1) (by omega)] nx (by kernel_rfl)
/-- The claims in the other order. -/
theorem ml_2 (hn : C.length ≤ 40) (next : GML (rg fML 11) (mS1 A B C S a 0)) : GML (lp fML 0) (mS1 A B C S a C.length) := by
 refine Gd.loop (mS1 A B C S a) (fun k => k ≤ C.length) (fun k => k) ?_ C.length (Nat.le_refl _)
 intro k hk ih
 match k with
 | 0 =>
  have lt : decide ((((0 : Nat) : Int) - 1) ≥ 0) = false := by decide
  unfold mS1 at next ⊢
  generalize (C.drop 0).reverse.map dQ = R at *
  exact .to mo_ [] [7, 8, 9, 10, 11, 12, 13] [0] 1 [na lt] next (by kernel_rfl)
 | k + 1 =>
  obtain ⟨q, hq⟩ : ∃ q, C[k]? = some q := ⟨_, List.getElem?_eq_getElem (by omega)⟩
  have s1 := dQ_at hq
  have nx := ih k (by omega) (by omega)
  have ap : (C.drop (k + 1)).reverse.map dQ ++ [dQ q] = (C.drop k).reverse.map dQ := by
   obtain ⟨l1, g1⟩ := List.getElem?_eq_some_iff.1 hq
   rw [List.drop_eq_getElem_cons l1, List.reverse_cons, List.map_append, g1]
   rfl
  have al : ((C.drop k).reverse.map dQ).length ≤ 2000 := by rw [List.length_map, List.length_reverse, List.length_drop]; omega
  have lt : decide ((k : Int) ≥ 0) = true := decide_eq_true (by omega)
  have ek : (((k + 1 : Nat) : Int) - 1) = (k : Int) := by omega
  unfold mS1 at nx ⊢
  rw [ek]
  generalize (C.drop k).reverse.map dQ = R at *
  generalize (C.drop (k + 1)).reverse.map dQ = R' at *
  exact .to mo_ [.mv 0 2] [7, 8, 9, 10, 11, 12, 13] [0] 1 [ye lt, .sel _ _ _ s1, .app _ _ _ 2000 ap (Nat.zero_lt_succ _) al, wq 41 ((k : Int) - 1) ((k : Int) - 1) (by omega)] nx (by kernel_rfl)
theorem ml_3 (hn : C.length ≤ 40) (ha : a ≤ C.length) (next : GML (rg fML 12) (mS2 A B C S (C.reverse ++ C.drop a))) : GML (rg fML 11) (mS1 A B C S a 0) := by
 have ap := apz (b := 0) (j := 1) (by omega) C.reverse (C.drop a) (by rw [List.length_append, List.length_reverse, List.length_drop]; omega)
 have sl_ : ((C.map dQ).take (C.map dQ).length).drop a = (C.drop a).map dQ := by rw [List.take_length, List.map_drop]
 have ll : (C.map dQ).length = C.length := List.length_map ..
 unfold mS1
 unfold mS2 at next
 unfold slQ at *
 exact .to mo_ [] [7, 8, 9, 10, 11] [] 0 [.slc (C.map dQ) a (C.map dQ).length 35 _ sl_ (by omega) (dQs_z C), .ext (some 53) _ _ _ _ _ ap] next (by kernel_rfl)
theorem ml_4 (hA : ∀ q ∈ A, Sq q) (hB : ∀ q ∈ B, Sq q) (hC : C = A ++ B) (hn : C.length ≤ 40) (nx : GML (rg fML 14) (mS3 C (sorted C) O)) : GML (rg fML 12) (mS2 A B C (sorted C) O) := by
 have hab : ∀ q ∈ A ++ B, Sq q := fun q hq => (List.mem_append.1 hq).elim (hA q) (hB q)
 have hl : A.length + B.length ≤ 40 := by rw [← List.length_append, ← hC]; exact hn
 have cA := e_csort hA (by omega)
 have cA2 := e_sortR hA (by omega)
 have cB := e_csort hB (by omega)
 have lA := sorted_le A
 have lB := sorted_le B
 have p1 := apz (b := 0) (j := 1) (by omega) (sorted A) B (by rw [List.length_append]; omega)
 have p2 := apz (b := 2) (j := 3) (by omega) (sorted B) (sorted A) (by rw [List.length_append]; omega)
 have c1 := e_sortR (L := sorted A ++ B) (fun q hq => (List.mem_append.1 hq).elim (fun h => hA q (sorted_sub h)) (hB q)) (by rw [List.length_append]; omega)
 have c2 := e_sortR (L := sorted B ++ sorted A) (fun q hq => (List.mem_append.1 hq).elim (fun h => hB q (sorted_sub h)) (fun h => hA q (sorted_sub h))) (by rw [List.length_append]; omega)
 rw [sorted_one hab, ← hC] at c1
 rw [sorted_two hab, ← hC] at c2
 unfold mS3 at nx
 unfold mS2
 unfold slQ at *
 generalize (sorted A ++ B).map dQ = R1 at *
 generalize (sorted B ++ sorted A).map dQ = R2 at *
 generalize (sorted A).map dQ = R3 at *
 generalize (sorted B).map dQ = R4 at *
 generalize (sorted C).map dQ = R5 at *
 exact .to mo_ [] [9, 10, 11, 14, 15] [] 0 [cl cA, .ext (some 57) _ _ _ _ _ p1, cl c1, cl cB, cl cA2, .ext (some 63) _ _ _ _ _ p2, cl c2] nx (by kernel_rfl)
end
end Go.Proofs.YthliihpeodohpaaGreatDoor.E.Ca
