/-
  THE WALKS over digests: wire.Digests.
-/
import Derived.Test.YthgpgdpndionjaaWalkEnc
import Derived.Deep.MidRow
namespace Go.Proofs.Ythgpgdpndionjaa
open Go.RowKit

theorem size_digest : (Try.prog.info? 57).map (·.size) = some 16 := by kernel_rfl
theorem info_digest : (Try.prog.info? 57).map (fun i => (i.zero, i.size, i.bytes)) = some (some (.agg (List.replicate 16 (Value.int .u8 0)).toArray), 16, 16) := by kernel_rfl

/-- 16 bytes out of many. -/
def dig (F : List UInt8) (k : Nat) : List UInt8 := (F.drop (k * 16)).take 16
theorem dig_length {F : List UInt8} {n k : Nat} (h : F.length = n * 16) (hk : k < n) : (dig F k).length = 16 := by
  unfold dig; rw [List.length_take, List.length_drop]; omega
theorem dig_next (F : List UInt8) (k : Nat) : F.take ((k + 1) * 16) = F.take (k * 16) ++ dig F k := by
  unfold dig
  rw [show (k + 1) * 16 = k * 16 + 16 from by omega, List.take_add]
theorem rd_range {w : World} {b o : Nat} {F : List UInt8} (h : ∀ j u, (W.bc F)[j]? = some u → w.cell? ⟨b, o + j, none⟩ = some u) (k : Nat) : w.rangeAt b (o + k * 16) (W.bc (dig F k)) := by
  intro j v hv
  have e : (W.bc (dig F k))[j]? = some v → (W.bc F)[k * 16 + j]? = some v := by
    intro hv
    unfold dig at hv
    rw [← W.bc_take, ← W.bc_drop, List.getElem?_take] at hv
    split at hv
    · rwa [List.getElem?_drop] at hv
    · cases hv
  rw [Nat.add_assoc]
  exact h _ v (e hv)

theorem grown_setCells (b : Nat) : ∀ (vs : List Value) (o : Nat) (w : World), w.grownBy (w.setCells b o vs) (some b)
  | [], _, w => World.grownBy.refl w _
  | v :: r, o, w => by
    rw [World.setCells]
    have h := grown_setCells b r (o + 1) (w.setCell ⟨b, o, none⟩ v)
    have h1 : ∀ k, k ≠ b → (w.setCell ⟨b, o, none⟩ v).heap[k]? = w.heap[k]? := fun k hk => Below.heap_setCell w ⟨b, o, none⟩ v k hk
    have hsz : (w.setCell ⟨b, o, none⟩ v).heap.size = w.heap.size := by simp [World.setCell]
    exact ⟨h.os, h.tape, h.output, by rw [← hsz]; exact h.size, fun k hk hne => (h.block k (by rw [hsz]; exact hk) hne).trans (h1 k (fun e => hne (by rw [e])))⟩
theorem there_new (w : World) (C : Array Value) (T n : Nat) (h : n ≤ C.size) : (w.alloc (.cells C T)).there w.heap.size 0 n := by
  intro j hj
  have h1 := heap_alloc_new w (.cells C T)
  refine ⟨?_, ?_⟩
  · rw [cell_of_row _ _ _ C T (0, 0) h1, Array.getElem?_eq_getElem (by omega)]
    rfl
  · unfold World.frozen?
    rw [h1]
    simp
theorem own_other {w w' : World} {base e size n b : Nat} {v : Value} {xs : List Value} (h : w.ownsRow base e size v n xs) (hg : w.grownBy w' (some b)) (hb : ∀ k, v.ownBlock = some k → k ≠ b) : w'.ownsRow base e size v n xs :=
  h.kept hg (by
    cases hv : v.ownBlock with
    | none => exact .inl rfl
    | some k => exact .inr (fun e => hb k hv (by injection e)))
theorem own_ne_new {w : World} {base e size n : Nat} {v : Value} {xs : List Value} (h : w.ownsRow base e size v n xs) : ∀ k, v.ownBlock = some k → k ≠ w.heap.size := fun k hk => by have := h.lt k hk; omega

theorem cells_set (w : World) (C : Array Value) (T : Nat) (cs : List Value) (h : cs.length ≤ C.size) : ∀ j u, cs[j]? = some u → ((w.alloc (.cells C T)).setCells w.heap.size 0 cs).cell? ((⟨w.heap.size, 0, none⟩ : Addr).add j) = some u := fun j u hu => by
  rw [Addr.add_lit]
  exact World.rangeAt_setCells_same _ _ _ _ (there_new w C T _ h) j u hu
theorem base_set (w : World) (C : Array Value) (T : Nat) (cs : List Value) {B : Nat} (h : B ≤ w.heap.size) : B ≤ ((w.alloc (.cells C T)).setCells w.heap.size 0 cs).heap.size := by
  have := (grown_setCells w.heap.size cs 0 (w.alloc (.cells C T))).size
  simp at this
  omega

set_option maxHeartbeats 1000000 in
theorem wdigests_any (F : List UInt8) (A : Option Addr) (n c L : Nat) (w : World) (hr : Rd w L A (W.bc F)) (hL : L ≤ w.heap.size) (hF : F.length = n * 16) (hlen : n ≤ 4398046511104) :
    Calls Try.prog 22 #[.slice A n c] w (Mk 5 1 (W.bc (W.enc n ++ F)) (W.enc n ++ F).length w) := by
  obtain ⟨i0, hi, hz0, hz1, hz2⟩ := info_parts info_u8
  have hI : W.Is64 (n : Int) := by unfold W.Is64; omega
  have HR := Lib.hid hr; clear hr
  have HF := Lib.hid hF; clear hF
  go_enter Try.func22, Try.ntmps22
  go_wp2_with fail
  refine (wint_any _ _ hI).mono ?_
  rintro e w1 ⟨v1, rfl, hown1, hb1⟩
  have hl := W.enc_le (n : Int)
  go_wp2_with fail
  go_loopw [11, 3] (fun ix v wr => ∃ k : Nat, k ≤ n ∧ ix = .int .i64 k ∧ wr.ownsRow w.heap.size 5 1 v (W.enc n ++ F.take (k * 16)).length (W.bc (W.enc n ++ F.take (k * 16))) ∧ Below w.heap.size w wr) (fun ix _ _ => n - (intOf ix).toNat)
  case atStart => exact ⟨0, by omega, rfl, by simpa using hown1, hb1⟩
  case round =>
    obtain ⟨k, hk, rfl, hown, hnx⟩ := hrel
    by_cases hlt : k < n
    · obtain ⟨b, o, rfl, hbL, hcell⟩ := HR.out (by rw [W.bc_length, HF.out]; omega)
      have hrg : wr.rangeAt b (o + k * 16) (W.bc (dig F k)) := rd_range (fun j u hu => (hnx.cell (p := ⟨b, o + j, none⟩) (Nat.lt_of_lt_of_le hbL hL)).trans (hcell j u hu)) k
      have hdl := dig_length HF.out hlt
      have HG := Lib.hid hrg; clear hrg hcell
      have HDL := Lib.hid hdl; clear hdl
      have hs16 : (Try.prog.info? 57).map (·.size) = some (W.bc (dig F k)).toArray.size := by rw [size_digest]; simp [HDL.out]
      have HS16 := Lib.hid hs16; clear hs16
      have hone := Lib.hid (all_oneCell_toArray (W.bc_oneCell (dig F k)))
      have hbd : (W.enc n ++ F.take (k * 16)).length ≤ 70368744177664 := by
        have := HF.out
        rw [List.length_append, List.length_take]
        omega
      have e3 : W.enc n ++ F.take ((k + 1) * 16) = (W.enc n ++ F.take (k * 16)) ++ dig F k := by rw [dig_next, List.append_assoc]
      have E3 := Lib.hid e3; clear e3
      obtain ⟨N, hN⟩ : ∃ N, N = (W.enc n ++ F.take (k * 16)).length := ⟨_, rfl⟩
      rw [← hN] at hbd hown
      have HN := Lib.hid hN; clear hN
      have hzr := hnx.size
      go_wp2_with (first
        | (refine wpList_load_mid rfl 57 (.tmp 13) rfl b (o + k * 16) rfl (W.bc (dig F k)) _ HG.out Try.underlying57 rfl (by rw [size_digest, W.bc_length, HDL.out]) ?_)
        | (refine wpList_store_mid rfl 57 (.tmp 5) (.tmp 14) rfl wr.heap.size 0 _ rfl rfl (there_new _ _ _ _ (by simp [HDL.out])) HS16.out hone.out ?_)
        | (at_builtin; refine wpList_append_own _ rfl (.tmp 15) (.tmp 16) _ rfl w.heap.size 5 i0 _ 1 1 Try.underlying28 hi hz0 hz1 hz2 rfl (by decide) _ _ _ rfl (own_other (hown.alloc _) (grown_setCells _ _ _ _) (own_ne_new hown)) ⟨wr.heap.size, 0, none⟩ 16 16 (W.bc (dig F k)) rfl (by simp [HDL.out]) (cells_set _ _ _ _ (by simp [HDL.out])) (W.bc_oneCell _) (by unfold maxLen; omega) (by omega) (base_set _ _ _ _ hzr) ?_))
      intro v' w3 hown3 hgrow _
      have hB : Below w.heap.size w w3 := ((hnx.alloc hzr _).grown (grown_setCells _ _ _ _) (by simp; omega) (fun g hg => by injection hg with hg; omega)).grown hgrow (base_set _ _ _ _ hzr) (fun g hg => (hown.lt g hg).1)
      clear hgrow hown
      go_wp2
      go_roundw
      case rel =>
        refine ⟨k + 1, by omega, by go_num, ?_, hB⟩
        rw [E3.out, List.length_append, W.bc_append, ← HN.out, HDL.out]
        exact hown3
      case measure => simp [intOf]; omega
    · obtain rfl : k = n := by omega
      go_wp2
      go_ret
      refine ⟨_, rfl, ?_, hnx⟩
      rw [List.take_of_length_le (by rw [HF.out]; exact Nat.le_refl _)] at hown
      exact hown
end Go.Proofs.Ythgpgdpndionjaa
