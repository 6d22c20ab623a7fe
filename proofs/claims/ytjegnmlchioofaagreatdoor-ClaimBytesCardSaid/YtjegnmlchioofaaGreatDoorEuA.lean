/-
 RULES TOLD FROM OUTSIDE (Ext): comparison with nil, append of what is empty; a row that may be nil.
-/
import Derived.Test.YtjegnmlchioofaaGreatDoorEtB
import Derived.Test.YtjegnmlchioofaaGreatDoorEmL
import Derived.Lib.SliceRun
namespace Go.Proofs.YtjegnmlchioofaaGreatDoor.E
open Go.RowKit
set_option linter.unusedVariables false
set_option linter.unusedSimpArgs false
section
variable {α : Type}
theorem tk_step {l m : List α} {i : Nat} {a b : α} (h : l.take i = m.take i) (ha : l[i]? = some a) (hb : m[i]? = some b) (e : a = b) : l.take (i + 1) = m.take (i + 1) := by
 rw [List.take_add_one, List.take_add_one, h, ha, hb, e]
theorem tk_eq {l m : List α} {i : Nat} (h : l.take i = m.take i) (hi : ¬ i < l.length) (hl : l.length = m.length) : l = m := by
 rw [List.take_of_length_le (by omega), List.take_of_length_le (by omega)] at h
 exact h
theorem tk_ne {l m : List α} {i : Nat} {a b : α} (ha : l[i]? = some a) (hb : m[i]? = some b) (e : a ≠ b) : l ≠ m := fun h => by
 subst h
 rw [ha] at hb
 injection hb with hb
 exact e hb
end
noncomputable abbrev fsB : Func := fnOf PP 9
theorem u8_ne {a b : UInt8} : ((a.toNat : Int) != (b.toNat : Int)) = decide (a ≠ b) := by
 by_cases h : a = b
 · subst h; simp
 · have : a.toNat ≠ b.toNat := fun e => h (UInt8.toNat_inj.1 e)
   simp [h]; omega
theorem e_same1 (a b : List UInt8) (hn : a.length ≤ 4611686018427387904) : Pure PP 9 [.sl (byL a), .sl (byL b)] (bo (decide (a = b))) := by
 by_cases hl : a.length = b.length
 · let X : Nat → St := fun i => at_ fsB [(0, .sl (byL a)), (1, .sl (byL b)), (5, ni i)] []
   refine pf (by kernel_rfl) (.to mo_ [] [0, 1, 5] [] 0 [na (t := ((byL a).length : Int) != ((byL b).length : Int)) (by simp [byL_len, hl])] (td' := lp fsB 0) (σ' := X 0) ?_ (by kernel_rfl))
   refine Gd.loop X (fun i => i ≤ a.length ∧ a.take i = b.take i) (fun i => a.length - i) ?_ 0 ⟨Nat.zero_le _, rfl⟩
   intro i ⟨hi, hI⟩ ih
   have hlt : ∀ h : i < a.length, decide ((i : Int) < ((byL a).length : Int)) = true := fun h => decide_eq_true (by rw [byL_len]; omega)
   by_cases h : i < a.length
   · obtain ⟨x, hx⟩ := by_el h
     obtain ⟨y, hy⟩ := by_el (l := b) (i := i) (by omega)
     by_cases e : x = y
     · exact .to mo_ [] [0, 1, 5] [] 0 [ye (hlt h), .sel _ _ _ (byL_at hx), .sel _ _ _ (byL_at hy), na (t := (x.toNat : Int) != (y.toNat : Int)) (by rw [u8_ne]; simp [e]), inc 16 i (by omega)] (ih (i + 1) ⟨h, tk_step hI hx hy e⟩ (by omega)) (by kernel_rfl)
     · rw [show decide (a = b) = false from decide_eq_false (tk_ne hx hy e)]
       exact fi [ye (hlt h), .sel _ _ _ (byL_at hx), .sel _ _ _ (byL_at hy), ye (t := (x.toNat : Int) != (y.toNat : Int)) (by rw [u8_ne]; simp [e])] (by kernel_rfl) (by kernel_rfl)
   · rw [show decide (a = b) = true from decide_eq_true (tk_eq hI h hl)]
     exact fi [na (t := decide ((i : Int) < ((byL a).length : Int))) (decide_eq_false (by rw [byL_len]; omega))] (by kernel_rfl) (by kernel_rfl)
 · rw [show decide (a = b) = false from decide_eq_false fun e => hl (by rw [e])]
   exact tr [ye (t := ((byL a).length : Int) != ((byL b).length : Int)) (by simp [byL_len]; omega)] (by kernel_rfl)
noncomputable abbrev frI : Func := fnOf PP 61
section
variable {n : Int} {k : Nat}
/-- The digits of a number, the least first. -/
def leD (M i : Nat) : List UInt8 := (List.range i).map fun j => UInt8.ofNat (M / 256 ^ j)
theorem leD_succ (M i : Nat) : leD M (i + 1) = leD M i ++ [UInt8.ofNat (M / 256 ^ i)] := by simp [leD, List.range_succ]
theorem leD_len (M i : Nat) : (leD M i).length = i := by simp [leD]
theorem leD_at {M i k : Nat} (h : i < k) : (leD M k)[i]? = some (UInt8.ofNat (M / 256 ^ i)) := by simp [leD, h]
/-- One less, from one to nothing. -/
def dn : Nat → Int
 | 0 => -1
 | i + 1 => (i : Int)
theorem dn_eq (i : Nat) : (i : Int) - 1 = dn i := by cases i <;> simp [dn]
theorem dn_in (i : Nat) (h : i < 1000000) : -9223372036854775808 ≤ dn i ∧ dn i ≤ 9223372036854775807 := by cases i <;> simp [dn]; omega
noncomputable def rI2 (n : Int) (k : Nat) (j : Nat) (l : List UInt8) : St := at_ frI [(0, ni n), (4, .ow 0), (6, .ow 2), (7, ni (dn j))] [.rw 5 1 (byL (leD (W.mag n) k)), .dead, .rw 5 1 (byL l)]
theorem rI_tail (hk : W.wid (W.mag n) = k) (h8 : k ≤ 8) (l0 : List UInt8) (h0 : (W.enc n).take 1 = l0) : Gd PP 61 (.o 5 1 (byL (W.enc n))) (lp frI 1) (rI2 n k k l0) := by
 refine Gd.loop (fun (x : Nat × List UInt8) => rI2 n k x.1 x.2) (fun x => x.1 ≤ k ∧ (W.enc n).take (k - x.1 + 1) = x.2) (fun x => x.1) ?_ (k, l0) ⟨Nat.le_refl _, by simpa using h0⟩
 rintro ⟨j, l⟩ ⟨hj, hl⟩ ih
 simp only at hj hl ih ⊢
 cases j with
 | zero =>
   rw [Nat.sub_zero, W.enc_all n hk] at hl
   subst hl
   exact fi [nf] (by kernel_rfl) (by kernel_rfl)
 | succ i =>
   have e2 := wI_take (j := i) hk hj hl
   have h9 := take9 n (k - i + 1)
   rw [e2] at h9
   have hs : (byL (leD (W.mag n) k))[i]? = some [u8v (UInt8.ofNat (W.mag n / 256 ^ i))] := byL_at (leD_at (by omega))
   have hge : decide ((i : Int) ≥ 0) = true := decide_eq_true (by omega)
   have ap : byL l ++ byL [bI n i] = byL (l ++ [bI n i]) := byL_app _ _
   have hlen : (byL (l ++ [bI n i])).length ≤ 100 := by rw [byL_len]; omega
   have nx := ih (i, l ++ [bI n i]) ⟨by omega, e2⟩ (Nat.lt_succ_self i)
   have hq : (i : Int) - 1 = dn i ∧ -9223372036854775808 ≤ dn i ∧ dn i ≤ 9223372036854775807 := ⟨dn_eq i, dn_in i (by omega)⟩
   by_cases hn : n < 0
   · have hng : W.neg n = true := by unfold W.neg; simpa using hn
     have hb : IntKind.u8.wrap (255 - ((UInt8.ofNat (W.mag n / 256 ^ i)).toNat : Int)) = ((bI n i).toNat : Int) := by
      have := (UInt8.ofNat (W.mag n / 256 ^ i)).toNat_lt
      rw [IntKind.wrap_u8']
      unfold bI
      rw [hng, W.fx_toNat]
      simp only [if_true]
      omega
     exact .to mo_ [.mv 2 4] [0, 4, 6, 7] [0, 2] 3 [ye hge, .sel _ _ _ hs, .sel _ _ _ hs, ye (t := decide (n < 0)) (decide_eq_true hn), .eqv 53 (.k (.int .u8 (IntKind.u8.wrap (255 - ((UInt8.ofNat (W.mag n / 256 ^ i)).toNat : Int))))) (u8v (bI n i)) (by rw [hb]; rfl), .app (byL l) (byL [bI n i]) (byL (l ++ [bI n i])) 100 ap Nat.zero_lt_one hlen, wq 45 ((i : Int) - 1) (dn i) hq] nx (by kernel_rfl)
   · have hng : W.neg n = false := by unfold W.neg; simpa using hn
     have hb : UInt8.ofNat (W.mag n / 256 ^ i) = bI n i := by unfold bI; rw [hng]; rfl
     rw [hb] at hs
     exact .to mo_ [.mv 2 4] [0, 4, 6, 7] [0, 2] 3 [ye hge, .sel _ _ _ hs, .sel _ _ _ hs, na (t := decide (n < 0)) (decide_eq_false hn), .app (byL l) (byL [bI n i]) (byL (l ++ [bI n i])) 100 ap Nat.zero_lt_one hlen, wq 45 ((i : Int) - 1) (dn i) hq] nx (by kernel_rfl)
noncomputable def rI1 (n : Int) (i : Nat) : St := at_ frI [(0, ni n), (3, ni ((W.mag n / 256 ^ i : Nat) : Int)), (4, .ow 0)] [.rw 5 1 (byL (leD (W.mag n) i))]
theorem rI_loop (hn : W.Is64 n) : Gd PP 61 (.o 5 1 (byL (W.enc n))) (lp frI 0) (rI1 n 0) := by
 have hm := W.mag_lt hn
 refine Gd.loop (rI1 n) (fun i => i ≤ 8 ∧ (i = 0 ∨ 256 ^ (i - 1) ≤ W.mag n)) (fun i => 8 - i) ?_ 0 ⟨by omega, .inl rfl⟩
 intro i ⟨hi, hI⟩ ih
 have hd : W.mag n / 256 ^ i ≤ W.mag n := Nat.div_le_self ..
 by_cases h : 0 < W.mag n / 256 ^ i
 · have hle := wI_yes h
   have hi8 : i < 8 := by
    rcases Nat.lt_or_ge i 8 with h1 | h1
    · exact h1
    · have : 256 ^ 8 ≤ 256 ^ i := Nat.pow_le_pow_right (by omega) h1
      omega
   have hx := ih (i + 1) ⟨by omega, .inr (by simpa using hle)⟩ (by omega)
   have hdd : W.mag n / 256 ^ (i + 1) = W.mag n / 256 ^ i / 256 := by rw [Nat.pow_succ, Nat.div_div_eq_div_mul]
   have hsc := leD_succ (W.mag n) i
   have hln := leD_len (W.mag n) (i + 1)
   unfold rI1 at hx
   rw [hdd, hsc] at hx
   rw [hsc] at hln
   unfold rI1
   generalize leD (W.mag n) i = ds at hx hln ⊢
   generalize W.mag n / 256 ^ i = q at h hd hx hln ⊢
   have e1 : IntKind.u8.wrap ((q : Int).tmod 256) = ((UInt8.ofNat q).toNat : Int) := by
    have : (q : Int).tmod 256 = ((q % 256 : Nat) : Int) := rfl
    rw [this, W.wrap_u8_nat]
    congr 1
    apply congrArg
    apply UInt8.toNat_inj.1
    simp
   have e2 : IntKind.i64.wrap ((q : Int).tdiv 256) = ((q / 256 : Nat) : Int) := by
    have : (q : Int).tdiv 256 = ((q / 256 : Nat) : Int) := rfl
    rw [this, wr6 (by omega)]
   exact .to mo_ [.mv 0 2] [0, 3, 4] [0] 1 [ye (t := decide ((q : Int) > 0)) (decide_eq_true (by omega)), .eqv 19 (.k (.int .u8 (IntKind.u8.wrap ((q : Int).tmod 256)))) (u8v (UInt8.ofNat q)) (by rw [e1]; rfl), .app (byL ds) (byL [UInt8.ofNat q]) (byL (ds ++ [UInt8.ofNat q])) 100 (byL_app _ _) Nat.zero_lt_one (by rw [byL_len, hln]; omega), .eqv 23 (ni (IntKind.i64.wrap ((q : Int).tdiv 256))) (ni ((q / 256 : Nat) : Int)) (by rw [e2])] hx (by kernel_rfl)
 · have hk := wI_wid hn (wI_no h) hI
   have T := rI_tail hk hi _ (W.enc_head n hk)
   have hz : W.mag n / 256 ^ i = 0 := Nat.le_zero.1 (Nat.not_lt.1 h)
   have hln := leD_len (W.mag n) i
   unfold rI1
   rw [hz]
   by_cases hneg : n < 0
   · have hng : W.neg n = true := by unfold W.neg; simpa using hneg
     have hb : IntKind.u8.wrap (IntKind.i64.wrap (127 - (i : Int))) = ((W.fx (W.neg n) (UInt8.ofNat (128 + i))).toNat : Int) := by
      rw [wr6 (by omega), IntKind.wrap_u8', hng, W.fx_toNat]
      simp <;> omega
     exact .to mo_ [] [0, 4, 6, 7] [0, 2] 3 [nf, .eqv 25 (ni ((byL (leD (W.mag n) i)).length : Int)) (ni i) (by rw [byL_len, hln]), na (t := decide (n ≥ 0)) (decide_eq_false (by omega)), .eqv 37 (.k (.int .u8 (IntKind.u8.wrap (IntKind.i64.wrap (127 - (i : Int)))))) (u8v (W.fx (W.neg n) (UInt8.ofNat (128 + i)))) (by rw [hb]; rfl), .app [] (byL [W.fx (W.neg n) (UInt8.ofNat (128 + i))]) (byL [W.fx (W.neg n) (UInt8.ofNat (128 + i))]) 100 rfl Nat.zero_lt_one (by show 1 ≤ 100; decide), wq 41 ((i : Int) - 1) (dn i) ⟨dn_eq i, dn_in i (by omega)⟩] T (by kernel_rfl)
   · have hng : W.neg n = false := by unfold W.neg; simpa using hneg
     have hb : IntKind.u8.wrap (IntKind.i64.wrap (128 + (i : Int))) = ((W.fx (W.neg n) (UInt8.ofNat (128 + i))).toNat : Int) := by
      rw [wr6 (by omega), IntKind.wrap_u8', hng, W.fx_toNat]
      simp <;> omega
     exact .to mo_ [] [0, 4, 6, 7] [0, 2] 3 [nf, .eqv 25 (ni ((byL (leD (W.mag n) i)).length : Int)) (ni i) (by rw [byL_len, hln]), ye (t := decide (n ≥ 0)) (decide_eq_true (by omega)), .eqv 31 (.k (.int .u8 (IntKind.u8.wrap (IntKind.i64.wrap (128 + (i : Int)))))) (u8v (W.fx (W.neg n) (UInt8.ofNat (128 + i)))) (by rw [hb]; rfl), .app [] (byL [W.fx (W.neg n) (UInt8.ofNat (128 + i))]) (byL [W.fx (W.neg n) (UInt8.ofNat (128 + i))]) 100 rfl Nat.zero_lt_one (by show 1 ≤ 100; decide), wq 41 ((i : Int) - 1) (dn i) ⟨dn_eq i, dn_in i (by omega)⟩] T (by kernel_rfl)
theorem e_rint (hn : W.Is64 n) : Pure PP 61 [ni n] (.o 5 1 (byL (W.enc n))) := by
 have L := rI_loop hn
 have h0 : W.mag n / 256 ^ 0 = W.mag n := Nat.div_one _
 unfold rI1 at L
 rw [h0] at L
 have hm := W.mag_lt hn
 by_cases h : n < 0
 · have e : -1 - n = (W.mag n : Int) := by unfold W.mag; rw [if_pos h]; omega
   exact pf (by kernel_rfl) (.to mo_ [.ow 4 (.rw 5 1 [])] [0, 3, 4] [0] 1 [ye (t := decide (n < 0)) (decide_eq_true h), wq 13 (-1 - n) (W.mag n) (by rw [e]; omega)] L (by kernel_rfl))
 · have e : n = (W.mag n : Int) := by unfold W.mag; rw [if_neg h]; omega
   exact pf (by kernel_rfl) (.to mo_ [.ow 4 (.rw 5 1 [])] [0, 3, 4] [0] 1 [.eqv 3 (ni n) (ni (W.mag n)) (by rw [← e]), na (t := decide (n < 0)) (decide_eq_false h)] L (by kernel_rfl))
end
noncomputable abbrev frL : Func := fnOf PP 27
theorem e_rints {l : List Int} (hl : ∀ x ∈ l, W.Is64 x) (hb : l.length ≤ 100000) : Pure PP 27 [zl l] (.o 5 1 (byL (W.encI l))) := by
 have hz := zs_len l
 let P : Nat → List UInt8 := fun i => W.enc l.length ++ (l.take i).flatMap W.enc
 let X : Nat → St := fun i => at_ frL [(0, zl l), (3, .ow 0), (4, ni i)] [.rw 5 1 (byL (P i))]
 have h0 : P 0 = W.enc l.length := by simp [P]
 have hn : P l.length = W.encI l := by simp only [P]; rw [List.take_length]; rfl
 have hPl : ∀ i, (P i).length ≤ (W.encI l).length := fun i => by
  have := W.flat_le W.enc l i
  simp only [P, W.encI, List.length_append]; omega
 have hle := W.encI_le l
 have h64 : W.Is64 (l.length : Int) := W.nat64 (by omega)
 refine pf (by kernel_rfl) (.to mo_ [] [0, 3, 4] [0] 1 [.eqv 6 (ni ((zs l).length : Int)) (ni (l.length : Int)) (by rw [hz]), cl (e_rint h64)] (td' := lp frL 0) (σ' := at_ frL [(0, zl l), (3, .ow 0), (4, ni 0)] [.rw 5 1 (byL (W.enc l.length))]) ?_ (by kernel_rfl))
 rw [← h0]
 refine Gd.loop X (fun i => i ≤ l.length) (fun i => l.length - i) ?_ 0 (Nat.zero_le _)
 intro i hi ih
 by_cases h : i < l.length
 · have e := zs_el h
   have hx := num_el h
   generalize l.getD i 0 = d at e hx
   have hd : W.Is64 d := hl d (List.mem_of_getElem? hx)
   have eP : P (i + 1) = P i ++ W.enc d := encI_take hx
   have h1 := hPl (i + 1)
   have h2 := (W.enc_le d).1
   exact .to mo_ [.mv 0 2] [0, 3, 4] [0] 1 [ye (t := decide ((i : Int) < ((zs l).length : Int))) (decide_eq_true (by omega)), .sel _ _ _ e, cl (e_rint hd), .app (byL (P i)) (byL (W.enc d)) (byL (P (i + 1))) 1000000 (by rw [byL_app, eP]) (by rw [byL_len]; omega) (by rw [byL_len]; omega), inc 13 i (by omega)] (ih (i + 1) h (by omega)) (by kernel_rfl)
 · have hi2 : i = l.length := by omega
   subst hi2
   rw [← hn]
   exact fi [na (t := decide ((l.length : Int) < ((zs l).length : Int))) (decide_eq_false (by omega))] (by kernel_rfl) (by kernel_rfl)
noncomputable abbrev frG : Func := fnOf PP 70
section
variable {hd : UInt8} {t l : List UInt8} {g : Bool} {K : Nat}
noncomputable def rGs (hd : UInt8) (t : List UInt8) (g : Bool) (K i : Nat) : St := at_ frG [(0, .sl (byL (hd :: t))), (5, ni (hd.toNat : Int)), (6, ni K), (7, ni ((W.val ((t.take i).map (W.fx g)) : Nat) : Int)), (8, ni ((i + 1 : Nat) : Int))] []
/-- What has grown so far is too great. -/
theorem val_big (t : List UInt8) (g : Bool) {i K : Nat} (hi : i < K) (hl : K ≤ t.length) (h : 36028797018963967 < W.val ((t.take i).map (W.fx g))) : 9223372036854775808 ≤ W.val ((t.take K).map (W.fx g)) := by
 have step : ∀ j, i + 1 + j ≤ K → 9223372036854775808 ≤ W.val ((t.take (i + 1 + j)).map (W.fx g)) := by
  intro j
  induction j with
  | zero =>
   intro hj
   obtain ⟨b, hb⟩ := by_el (l := t) (i := i) (by omega)
   have := W.val_step t g i b hb
   rw [Nat.add_zero, this]
   omega
  | succ j ih =>
   intro hj
   obtain ⟨b, hb⟩ := by_el (l := t) (i := i + 1 + j) (by omega)
   have := W.val_step t g (i + 1 + j) b hb
   rw [show i + 1 + (j + 1) = i + 1 + j + 1 from by omega, this]
   have := ih (by omega)
   omega
 have := step (K - (i + 1)) (by omega)
 rwa [show i + 1 + (K - (i + 1)) = K from by omega] at this
theorem dec_big63 (hg : g = decide (hd.toNat < 128)) (hK : (W.fx g hd).toNat = 128 + K) (h8 : K ≤ 8) (hl : K ≤ t.length) (h : 9223372036854775808 ≤ W.val ((t.take K).map (W.fx g))) : W.dec (hd :: t) = (0, 0, 2) := by
 rw [W.dec_cons hd t g K hg hK, if_neg (by omega), if_neg (by omega), if_pos (.inr h)]
/-- What is no code of its number is none. -/
theorem dec_cand (hg : g = decide (hd.toNat < 128)) (hK : (W.fx g hd).toNat = 128 + K) (h8 : K ≤ 8) (hl : K ≤ t.length) {V : Nat} (hV : V = W.val ((t.take K).map (W.fx g))) (h : V < 9223372036854775808) : W.dec (hd :: t) = if W.enc (if g then -1 - (V : Int) else (V : Int)) = (hd :: t).take (K + 1) then (if g then -1 - (V : Int) else (V : Int), K + 1, 0) else (0, 0, 2) := by
 have h64 : W.Is64 (if g then -1 - (V : Int) else (V : Int)) := by unfold W.Is64; cases g <;> simp <;> omega
 generalize hn : (if g then -1 - (V : Int) else (V : Int)) = n at h64
 by_cases he : W.enc n = (hd :: t).take (K + 1)
 · rw [if_pos he]
   have h1 := W.dec_enc h64 ((hd :: t).drop (K + 1))
   rw [he, List.take_append_drop] at h1
   rw [h1]
   have : ((hd :: t).take (K + 1)).length = K + 1 := by rw [List.length_take]; simp; omega
   rw [this]
 · rw [if_neg he]
   have hc := W.dec_cons hd t g K hg hK
   rw [if_neg (by omega), if_neg (by omega), ← hV, hn] at hc
   by_cases h1 : (0 < K ∧ V < 256 ^ (K - 1)) ∨ 9223372036854775808 ≤ V
   · rw [hc, if_pos h1]
   · rw [if_neg h1] at hc
     exact absurd (W.dec_ok hc).2.2.1.symm he
theorem rG_loop (hg : g = decide (hd.toNat < 128)) (hK : (W.fx g hd).toNat = 128 + K) (h8 : K ≤ 8) (hl : K ≤ t.length) : Gd PP 70 (tu3 (W.dec (hd :: t))) (lp frG 0) (rGs hd t g K 0) := by
 have hln : (byL (hd :: t)).length = t.length + 1 := byL_len _
 have hgd : decide ((hd.toNat : Int) < 128) = g := by rw [hg]; exact decide_eq_decide.2 (by omega)
 refine Gd.loop (rGs hd t g K) (fun i => i ≤ K ∧ W.val ((t.take i).map (W.fx g)) < 9223372036854775808) (fun i => K - i) ?_ 0 ⟨Nat.zero_le _, by simp [W.val]⟩
 intro i ⟨hi, hv⟩ ih
 have hV := W.val_take_lt t g i
 by_cases h : i < K
 · obtain ⟨b, hb⟩ := by_el (l := t) (i := i) (by omega)
   have s : (byL (hd :: t))[i + 1]? = some [u8v b] := byL_at hb
   have hst := W.val_step t g i b hb
   have hbl := b.toNat_lt
   have hfl := (W.fx g b).toNat_lt
   have hle : decide (((i + 1 : Nat) : Int) ≤ (K : Int)) = true := decide_eq_true (by omega)
   have hbig := val_big t g h hl
   have nx := ih (i + 1)
   unfold rGs at nx ⊢
   rw [hst] at nx
   have d63 := dec_big63 (t := t) hg hK h8 hl
   generalize W.val ((t.take i).map (W.fx g)) = m at hv hV hst hbig nx ⊢
   by_cases h55 : 36028797018963967 < m
   · rw [d63 (hbig h55)]
     cases g with
     | true => exact fi [ye hle, .sel _ _ _ s, wq 44 (b.toNat : Int) (b.toNat : Int) (by omega), ye hgd, wq 48 (255 - (b.toNat : Int)) ((W.fx true b).toNat : Int) (by rw [W.fx_toNat]; simp; omega), ye (t := decide ((m : Int) > 36028797018963967)) (decide_eq_true (by omega))] (by kernel_rfl) (by kernel_rfl)
     | false => exact fi [ye hle, .sel _ _ _ s, wq 44 (b.toNat : Int) (b.toNat : Int) (by omega), na hgd, ye (t := decide ((m : Int) > 36028797018963967)) (decide_eq_true (by omega))] (by kernel_rfl) (by kernel_rfl)
   · have nx := nx ⟨h, by omega⟩ (by omega)
     cases g with
     | true =>
       have hx : (W.fx true b).toNat = 255 - b.toNat := by rw [W.fx_toNat]; simp
       exact .to mo_ [] [0, 5, 6, 7, 8] [] 0 [ye hle, .sel _ _ _ s, wq 44 (b.toNat : Int) (b.toNat : Int) (by omega), ye hgd, wq 48 (255 - (b.toNat : Int)) ((W.fx true b).toNat : Int) (by omega), na (t := decide ((m : Int) > 36028797018963967)) (decide_eq_false (by omega)), wq 52 (256 * (m : Int)) (256 * (m : Int)) (by omega), wq 54 (256 * (m : Int) + ((W.fx true b).toNat : Int)) ((m * 256 + (W.fx true b).toNat : Nat) : Int) (by omega), inc 39 (i + 1) (by omega)] nx (by kernel_rfl)
     | false =>
       have hx : (W.fx false b).toNat = b.toNat := by rw [W.fx_toNat]; simp
       exact .to mo_ [] [0, 5, 6, 7, 8] [] 0 [ye hle, .sel _ _ _ s, wq 44 (b.toNat : Int) ((W.fx false b).toNat : Int) (by omega), na hgd, na (t := decide ((m : Int) > 36028797018963967)) (decide_eq_false (by omega)), wq 52 (256 * (m : Int)) (256 * (m : Int)) (by omega), wq 54 (256 * (m : Int) + ((W.fx false b).toNat : Int)) ((m * 256 + (W.fx false b).toNat : Nat) : Int) (by omega), inc 39 (i + 1) (by omega)] nx (by kernel_rfl)
 · have hi2 : i = K := by omega
   subst hi2
   have hc := dec_cand (t := t) hg hK h8 hl rfl hv
   have hle : decide (((i + 1 : Nat) : Int) ≤ (i : Int)) = false := decide_eq_false (by omega)
   have hsl : ((byL (hd :: t)).take (i + 1)).drop 0 = byL ((hd :: t).take (i + 1)) := by rw [List.drop_zero, byL_take]
   unfold rGs
   rw [hc]
   clear hc ih
   generalize W.val ((t.take i).map (W.fx g)) = m at hv hV ⊢
   cases g with
   | true =>
     simp only [if_true]
     have h64 : W.Is64 (-1 - (m : Int)) := by unfold W.Is64; omega
     have c1 := e_rint h64
     have c2 := e_same1 (W.enc (-1 - (m : Int))) ((hd :: t).take (i + 1)) (by have := (W.enc_le (-1 - (m : Int))).2; omega)
     by_cases he : W.enc (-1 - (m : Int)) = (hd :: t).take (i + 1)
     · rw [if_pos he]
       rw [decide_eq_true he] at c2
       exact fi [na hle, ye hgd, wq 59 (-1 - (m : Int)) (-1 - (m : Int)) (by unfold W.Is64 at h64; omega), cl c1, inc 64 i (by omega), .slc (byL (hd :: t)) 0 (i + 1) 1 (byL ((hd :: t).take (i + 1))) hsl (by rw [hln]; omega) (byL_z _), cl c2, nf, inc 70 i (by omega)] (by kernel_rfl) (by kernel_rfl)
     · rw [if_neg he]
       rw [decide_eq_false he] at c2
       exact fi [na hle, ye hgd, wq 59 (-1 - (m : Int)) (-1 - (m : Int)) (by unfold W.Is64 at h64; omega), cl c1, inc 64 i (by omega), .slc (byL (hd :: t)) 0 (i + 1) 1 (byL ((hd :: t).take (i + 1))) hsl (by rw [hln]; omega) (byL_z _), cl c2, yt] (by kernel_rfl) (by kernel_rfl)
   | false =>
     simp only [Bool.false_eq_true, if_false]
     have h64 : W.Is64 (m : Int) := by unfold W.Is64; omega
     have c1 := e_rint h64
     have c2 := e_same1 (W.enc (m : Int)) ((hd :: t).take (i + 1)) (by have := (W.enc_le (m : Int)).2; omega)
     by_cases he : W.enc (m : Int) = (hd :: t).take (i + 1)
     · rw [if_pos he]
       rw [decide_eq_true he] at c2
       exact fi [na hle, na hgd, cl c1, inc 64 i (by omega), .slc (byL (hd :: t)) 0 (i + 1) 1 (byL ((hd :: t).take (i + 1))) hsl (by rw [hln]; omega) (byL_z _), cl c2, nf, inc 70 i (by omega)] (by kernel_rfl) (by kernel_rfl)
     · rw [if_neg he]
       rw [decide_eq_false he] at c2
       exact fi [na hle, na hgd, cl c1, inc 64 i (by omega), .slc (byL (hd :: t)) 0 (i + 1) 1 (byL ((hd :: t).take (i + 1))) hsl (by rw [hln]; omega) (byL_z _), cl c2, yt] (by kernel_rfl) (by kernel_rfl)
theorem e_rgetint (l : List UInt8) : Pure PP 70 [.sl (byL l)] (tu3 (W.dec l)) := by
 match l with
 | [] => exact tr [yt] (by kernel_rfl)
 | hd :: t =>
   have hln : (byL (hd :: t)).length = t.length + 1 := byL_len _
   have s0 : (byL (hd :: t))[0]? = some [u8v hd] := rfl
   have nz : (((byL (hd :: t)).length : Int) == 0) = false := by rw [hln]; simp; omega
   have hlt := hd.toNat_lt
   by_cases hg : hd.toNat < 128
   · have hgt : true = decide (hd.toNat < 128) := by simp [hg]
     have fx : (W.fx true hd).toNat = 255 - hd.toNat := by rw [W.fx_toNat]; simp
     by_cases h8 : hd.toNat < 119
     · rw [W.dec_big hd t true (127 - hd.toNat) hgt (by omega) (by omega)]
       exact tr [na nz, .sel _ _ _ s0, wq 17 (hd.toNat : Int) (hd.toNat : Int) (by omega), ye (t := decide ((hd.toNat : Int) < 119)) (decide_eq_true (by omega)), yt] (by kernel_rfl)
     · obtain ⟨K, hK⟩ : ∃ K, K = 127 - hd.toNat := ⟨_, rfl⟩
       by_cases hl : K ≤ t.length
       · have L := rG_loop (t := t) hgt (K := K) (by omega) (by omega) hl
         exact pf (by kernel_rfl) (.to mo_ [] [0, 5, 6, 7, 8] [] 0 [na nz, .sel _ _ _ s0, wq 17 (hd.toNat : Int) (hd.toNat : Int) (by omega), na (t := decide ((hd.toNat : Int) < 119)) (decide_eq_false (by omega)), na (t := decide ((hd.toNat : Int) > 136)) (decide_eq_false (by omega)), wq 25 ((hd.toNat : Int) - 128) ((hd.toNat : Int) - 128) (by omega), ye (t := decide ((hd.toNat : Int) < 128)) (decide_eq_true (by omega)), wq 29 (127 - (hd.toNat : Int)) (K : Int) (by omega), .eqv 31 (ni ((byL (hd :: t)).length : Int)) (ni ((t.length + 1 : Nat) : Int)) (by rw [hln]), inc 33 K (by omega), na (t := decide (((t.length + 1 : Nat) : Int) < ((K + 1 : Nat) : Int))) (decide_eq_false (by omega))] L (by kernel_rfl))
       · rw [W.dec_more hd t true K hgt (by omega) (by omega) (by omega)]
         exact tr [na nz, .sel _ _ _ s0, wq 17 (hd.toNat : Int) (hd.toNat : Int) (by omega), na (t := decide ((hd.toNat : Int) < 119)) (decide_eq_false (by omega)), na (t := decide ((hd.toNat : Int) > 136)) (decide_eq_false (by omega)), wq 25 ((hd.toNat : Int) - 128) ((hd.toNat : Int) - 128) (by omega), ye (t := decide ((hd.toNat : Int) < 128)) (decide_eq_true (by omega)), wq 29 (127 - (hd.toNat : Int)) (K : Int) (by omega), .eqv 31 (ni ((byL (hd :: t)).length : Int)) (ni ((t.length + 1 : Nat) : Int)) (by rw [hln]), inc 33 K (by omega), ye (t := decide (((t.length + 1 : Nat) : Int) < ((K + 1 : Nat) : Int))) (decide_eq_true (by omega))] (by kernel_rfl)
   · have hgt : false = decide (hd.toNat < 128) := by simp [hg]
     have fx : (W.fx false hd).toNat = hd.toNat := by rw [W.fx_toNat]; simp
     by_cases h8 : 136 < hd.toNat
     · rw [W.dec_big hd t false (hd.toNat - 128) hgt (by omega) (by omega)]
       exact tr [na nz, .sel _ _ _ s0, wq 17 (hd.toNat : Int) (hd.toNat : Int) (by omega), na (t := decide ((hd.toNat : Int) < 119)) (decide_eq_false (by omega)), ye (t := decide ((hd.toNat : Int) > 136)) (decide_eq_true (by omega))] (by kernel_rfl)
     · obtain ⟨K, hK⟩ : ∃ K, K = hd.toNat - 128 := ⟨_, rfl⟩
       by_cases hl : K ≤ t.length
       · have L := rG_loop (t := t) hgt (K := K) (by omega) (by omega) hl
         exact pf (by kernel_rfl) (.to mo_ [] [0, 5, 6, 7, 8] [] 0 [na nz, .sel _ _ _ s0, wq 17 (hd.toNat : Int) (hd.toNat : Int) (by omega), na (t := decide ((hd.toNat : Int) < 119)) (decide_eq_false (by omega)), na (t := decide ((hd.toNat : Int) > 136)) (decide_eq_false (by omega)), wq 25 ((hd.toNat : Int) - 128) (K : Int) (by omega), na (t := decide ((hd.toNat : Int) < 128)) (decide_eq_false (by omega)), .eqv 31 (ni ((byL (hd :: t)).length : Int)) (ni ((t.length + 1 : Nat) : Int)) (by rw [hln]), inc 33 K (by omega), na (t := decide (((t.length + 1 : Nat) : Int) < ((K + 1 : Nat) : Int))) (decide_eq_false (by omega))] L (by kernel_rfl))
       · rw [W.dec_more hd t false K hgt (by omega) (by omega) (by omega)]
         exact tr [na nz, .sel _ _ _ s0, wq 17 (hd.toNat : Int) (hd.toNat : Int) (by omega), na (t := decide ((hd.toNat : Int) < 119)) (decide_eq_false (by omega)), na (t := decide ((hd.toNat : Int) > 136)) (decide_eq_false (by omega)), wq 25 ((hd.toNat : Int) - 128) (K : Int) (by omega), na (t := decide ((hd.toNat : Int) < 128)) (decide_eq_false (by omega)), .eqv 31 (ni ((byL (hd :: t)).length : Int)) (ni ((t.length + 1 : Nat) : Int)) (by rw [hln]), inc 33 K (by omega), ye (t := decide (((t.length + 1 : Nat) : Int) < ((K + 1 : Nat) : Int))) (decide_eq_true (by omega))] (by kernel_rfl)
end
end Go.Proofs.YtjegnmlchioofaaGreatDoor.E
namespace Go.Proofs.YtjegnmlchioofaaGreatDoor.E
open Go.RowKit
set_option linter.unusedVariables false
set_option linter.unusedSimpArgs false
section
variable {P : Program}
theorem two_of {α : Type} {xs : List α} (h : xs.length = 2) : ∃ x y, xs = [x, y] := by
 match xs, h with
 | [x, y], _ => exact ⟨x, y, rfl⟩
def mkEq (op : BinOp) (T yT : TypeId) (xs : List Operand) : Op := .binOp op T (xs.getD 0 (.tmp 0)) (xs.getD 1 (.tmp 0)) yT
def mkAp (T T2 : TypeId) (xs : List Operand) : Op := .call ⟨.builtin .append, #[xs.getD 0 (.tmp 0), xs.getD 1 (.tmp 0)], #[T, T2]⟩
/-- A row with elements is not nil. -/
theorem x_eqnil {T e yT : TypeId} (hT : P.underlying T = some (.slice e)) (hg : P.eqGuardType P.depth T = false) (c : List V) (l : List (List V)) : Ext P (mkEq .eql T yT) [.sl (c :: l), .k (.slice none 0 0)] [] [] (bo false) := by
 intro B M h m w a o xs ho K hl hr _ _
 obtain ⟨x, y, rfl⟩ := two_of hl
 have hx := hr 0 x _ rfl rfl
 have hy := Rep.k_inv (hr 1 y _ rfl rfl)
 generalize hu : a.eval x = u at hx
 cases hx with
 | sl _ ad b off cc z _ us h1 h2 h3 =>
  obtain ⟨rfl, _⟩ := h3 (by simp)
  have hq := Lib.run_eql_slice_nil (P := P) w T e (some ⟨b, off, none⟩) (c :: l).length cc 0 0 hT
  have hgd : (eqGuard .eql T x y (.slice (some ⟨b, off, none⟩) (c :: l).length cc) (.slice none 0 0)).run P w = .ok () w := by simp [eqGuard, hg]
  refine Exec.val (u := .bool false) (w' := w) ?_ (.same K (.k _ _))
  simp only [mkEq, List.getD_cons_zero, List.getD_cons_succ] at ho
  simp only [Option.isNone] at hq
  simp only [List.length_cons] at hq hgd hu
  simp [execOp, ho, hu, hy, hgd, hq]
/-- Nothing is appended. -/
theorem x_apk {T e : TypeId} (hT : P.underlying T = some (.slice e)) {n0 : Nat} (hs : szT P e = some n0) {b U z : Nat} {l : List (List V)} {X : Option Addr} {c2 : Nat} : Ext P (mkAp T T) [.ow b, .k (.slice X 0 c2)] [(b, .rw U z l)] [] (.ow b) := by
 intro B M h m w a o xs ho K hl hr hrd _
 obtain ⟨x, y, rfl⟩ := two_of hl
 have hx := hr 0 x _ rfl rfl
 have hy := Rep.k_inv (hr 1 y _ rfl rfl)
 have hb : h b = .rw U z l := hrd _ (List.mem_singleton.2 rfl)
 obtain ⟨v1, xs1, h1, h2, h3, h4, h5⟩ := K.rw b U z l hb
 generalize hu : a.eval x = u at hx
 cases hx with
 | ow _ _ ad n c hm =>
  rw [h1] at hm
  injection hm with hm
  subst hm
  have hle : n ≤ c := by
   rcases h3.2 with ⟨e1, e2⟩ | ⟨g, cap, cur, e1, _, _, e2, _⟩
   · injection e1 with e1 e3 e4; omega
   · injection e1 with e1 e3 e4; omega
  simp only [mkAp, List.getD_cons_zero, List.getD_cons_succ] at ho
  refine Exec.val (u := .slice ad n c) (w' := w) ?_ (.same K (.ow _ _ _ _ _ h1))
  simp [execOp, ho, resolve, invoke, builtin, hu, hy, append_none hT hs hle]
/-- A row without elements: whatever it is, nil or not. -/
theorem Pure.em {f : FuncId} {pre post : List V} {D : RD} (h : ∀ ad c, Pure P f (pre ++ .k (.slice ad 0 c) :: post) D) : Pure P f (pre ++ .sl [] :: post) D := by
 refine ⟨(h none 0).1, fun w M args hM ha => ?_⟩
 have h0 := ha.2 pre.length (.sl []) (by simp)
 generalize hu : args.getD pre.length undef = u at h0
 cases h0 with
 | sl _ ad b o c z _ us h1 h2 h3 =>
  refine (h ad c).2 w M args hM ⟨by rw [ha.1]; simp, fun j x hx => ?_, ha.3⟩
  by_cases hj : j = pre.length
  · subst hj
    simp at hx
    subst hx
    rw [hu]
    exact .k _ _
  · refine ha.2 j x ?_
    rcases Nat.lt_or_ge j pre.length with h4 | h4
    · rw [List.getElem?_append_left h4] at hx ⊢
      exact hx
    · rw [List.getElem?_append_right h4] at hx ⊢
      obtain ⟨k, hk⟩ : ∃ k, j - pre.length = k + 1 := ⟨j - pre.length - 1, by omega⟩
      rw [hk] at hx ⊢
      simpa using hx
end
/-- slices.Clone of ints. -/
theorem e_cloneI (l : List Int) (hl : l.length ≤ 1000000) : Pure PP 98 [zl l] (zl l) := by
 cases l with
 | nil =>
   refine Pure.em (pre := []) (post := []) fun ad c => ?_
   cases ad with
   | none => exact tr [yt] (by kernel_rfl)
   | some q => exact tr [nf, .ext (some 7) _ _ _ _ _ (x_apk (T := 22) (e := 3) (n0 := 1) (by kernel_rfl) (by kernel_rfl) (b := 0) (U := 3) (z := 1) (l := []) (X := some q) (c2 := c))] (by kernel_rfl)
 | cons x r => exact tr [.ext (some 4) _ _ _ _ _ (x_eqnil (T := 22) (e := 3) (yT := 22) (by kernel_rfl) (by kernel_rfl) [ni x] (zs r)), nf, .aps [] (zs (x :: r)) (zs (x :: r)) 1000000 1 rfl (by rw [zs_len]; simp) (by rw [zs_len]; exact hl) (zs_z1 _)] (by kernel_rfl)
end Go.Proofs.YtjegnmlchioofaaGreatDoor.E
