/-
 THE FIFTH WAY of Spoilt: a denominator 1 that is written down, by the engine.
-/
import Derived.Test.YtcfejkpadcccbaaGreatEnMv
namespace Go.Proofs.YtcfejkpadcccbaaGreat.E
open Go.RowKit
set_option linter.unusedVariables false
section
variable {L : List (Rat × Rat)} {k j i : Nat} {how by_ : Int} {r : Rat}
theorem can_one : I.Can [1] ∧ I.val [1] = 1 := by
 have h := digs_ok 1
 have e : digs 1 = [1] := by unfold digs; rw [dif_neg (by decide)]; unfold digs; rw [dif_pos (by decide)]; rfl
 rw [e] at h
 exact h
theorem e_valid4o (r : Rat) : Pure false PP 60 [.ag (dR1 r)] (bo false) :=
 o1 (by kernel_rfl) fun w u A hu => by
  cases hu with
  | ag _ cs _ h1 h2 =>
   obtain ⟨l⟩ := cs
   match l, h1 with
   | [a, b, c, d], _ =>
    have hx := int_of (h2 0 _ rfl) (h2 1 _ rfl)
    obtain rfl := Rep.k_inv (h2 2 _ rfl)
    have hd := h2 3 _ rfl
    cases hd with
    | dg _ _ _ hq _ =>
     exact (rvalid4_o 1 a b d r.num w hx ⟨[1], rfl, hq, can_one.1, can_one.2⟩).mono fun _ _ => rt_val
theorem e_spoilt5 (h0 : 0 < L.length) (hn : L.length ≤ 100) (hw : W.Is64 how) (hy : W.Is64 by_) (hc : rnd how 6 = 5) : Pure false PP 12 [dL L, ni how, ni by_] (.sl (spo5 L by_)) := by
 obtain ⟨m, hm⟩ : ∃ m, L.length = m + 1 := ⟨L.length - 1, by omega⟩
 have hk1 := sk_lt h0 by_
 have hcc := e_around hw 6
 rw [hc] at hcc
 exact tr (sF hm hy h0 hn hcc ++ [nf, nf, nf, nf, nf, yt, .sel (L.map dV) _ _ (el_i hk1), .sel (L.map dV) _ _ (el_i hk1), .ro, .sel (L.map dV) _ _ (el_i hk1), .upd (L.map dV) _ _ (dV1 (L.getD (sk L by_) (0, 0))) (spo5 L by_) (el_i hk1) rfl]) (by kernel_rfl)
theorem spo5_len (L : List (Rat × Rat)) (by_ : Int) : (spo5 L by_).length = L.length := by unfold spo5; rw [List.length_set, List.length_map]
theorem spo5_at (h : i < L.length) (hi : i ≠ sk L by_) : (spo5 L by_)[i]? = some (dV (L.getD i (0, 0))) := by
 unfold spo5
 rw [List.getElem?_set_ne (fun e => hi e.symm)]
 exact el h
theorem spo5_k (h0 : 0 < L.length) : (spo5 L by_)[sk L by_]? = some (dV1 (L.getD (sk L by_) (0, 0))) := by
 unfold spo5
 rw [List.getElem?_set_self (by rw [List.length_map]; exact sk_lt h0 by_)]
theorem e_numbers5 (hb : ∀ a ∈ L, Bv k a) (h0 : 0 < L.length) (hn : L.length ≤ 1000) (hk : k ≤ 800000000000) (by_ : Int) : Pure false PP 20 [.sl (spo5 L by_)] (bo false) := by
 have hk1 := sk_lt h0 by_
 have hl := spo5_len L by_
 have tt : ∀ {i : Nat}, i < L.length → decide ((i : Int) < ((spo5 L by_).length : Int)) = true := fun h => decide_eq_true (by omega)
 let X : Nat → St := fun i => at_ (fnOf PP 20) [(0, .sl (spo5 L by_)), (3, ni i)] []
 refine pf (by kernel_rfl) (.to mo_ [] [0, 3] [] 0 [] (td' := lp (fnOf PP 20) 0) (σ' := X 0) ?_ (by kernel_rfl))
 refine Gd.loop X (fun i => i ≤ sk L by_) (fun i => L.length - i) ?_ _ (Nat.zero_le _)
 intro i hi ih
 by_cases h : i = sk L by_
 · subst h
   exact fi [ye (tt hk1), .sel _ _ _ (spo5_k (by_ := by_) h0), cl (e_valid4o (L.getD (sk L by_) (0, 0)).1), yt, yt] (by kernel_rfl) (by kernel_rfl)
 · have hi' : i < L.length := by omega
   have he := spo5_at hi' h
   exact .to mo_ [] [0, 3] [] 0 [ye (tt hi'), .sel _ _ _ he, cl (e_valid4 (bel hb hi').1 hk), nf, .sel _ _ _ he, cl (e_valid4 (bel hb hi').2 hk), nf, inc 9 i (by omega)] (ih (i + 1) (by omega) (by omega)) (by kernel_rfl)
end
end Go.Proofs.YtcfejkpadcccbaaGreat.E
