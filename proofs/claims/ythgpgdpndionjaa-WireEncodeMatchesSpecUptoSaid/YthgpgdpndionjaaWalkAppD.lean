/-
  Arguments as they come in: []api.Digest.
-/
import Derived.Test.YthgpgdpndionjaaWalkAppS
import Derived.Test.YthgpgdpndionjaaWalkDig
import Derived.Deep.Slices
namespace Go.Proofs.Ythgpgdpndionjaa
open Go.RowKit

/-- What is told of a slice of digests that came in: their bytes, one behind the other. -/
def IsD (w : World) (a : Option Addr) (len cap : Nat) (F : List UInt8) : Prop := Rd w w.heap.size a (W.bc F) ∧ F.length = len * 16 ∧ len ≤ cap ∧ cap ≤ maxLen
theorem isD_nil (w : World) : IsD w none 0 0 [] := ⟨fun h => by simp [W.bc] at h, rfl, Nat.le_refl _, by decide⟩

theorem flat16_len (G : Nat → List UInt8) : ∀ n, (∀ i, i < n → (G i).length = 16) → ((List.range n).flatMap G).length = n * 16
  | 0, _ => rfl
  | n + 1, h => by
    rw [List.range_succ, List.flatMap_append, List.length_append, flat16_len G n (fun i hi => h i (by omega))]
    simp [h n (by omega)]
    omega
theorem flat16_get (G : Nat → List UInt8) : ∀ n, (∀ i, i < n → (G i).length = 16) → ∀ i r, i < n → r < 16 → ((List.range n).flatMap G)[i * 16 + r]? = (G i)[r]?
  | 0, _, i, _, hi, _ => by omega
  | n + 1, h, i, r, hi, hr => by
    have hl := flat16_len G n (fun i hi => h i (by omega))
    rw [List.range_succ, List.flatMap_append]
    rcases Nat.lt_or_ge i n with h1 | h1
    · rw [List.getElem?_append_left (by rw [hl]; omega)]
      exact flat16_get G n (fun i hi => h i (by omega)) i r h1 hr
    · obtain rfl : i = n := by omega
      rw [List.getElem?_append_right (by rw [hl]; omega), hl]
      simp
def toU8 : Value → UInt8
  | .int _ n => UInt8.ofNat n.toNat
  | _ => 0
section
variable {H : Type} {enc : TypeId × Value → H} {w : World} {base : Nat} {spare : Nat → Bool} {held : Bool} {fuel : Nat}
theorem dig_open {cs : List Value} {x : DataW H × List MemPlace} (h : DataW.trod enc Try.prog w base spare held fuel 57 cs = some x) : cs.length = 16 ∧ W.bc (cs.map toU8) = cs := by
  obtain ⟨xs, m, _, _, hl, hx, he⟩ := DataW.trod_array Try.underlying57 h
  have h16 : cs.length = 16 := by rw [hl]; kernel_rfl
  have h1 : Try.prog.cellsOf 5 = 1 := by kernel_rfl
  refine ⟨h16, List.ext_getElem? fun i => ?_⟩
  rcases Nat.lt_or_ge i 16 with hi | hi
  · have h2 := he i hi
    rw [h1, Nat.mul_one, List.getElem?_eq_getElem (by omega : i < xs.length)] at h2
    obtain ⟨n, h3, _, h4⟩ := DataW.trod_int Try.underlying5 h2
    have h5 : cs[i]? = some (.int .u8 n) := by
      have := congrArg (fun l => l[0]?) h3
      simpa [List.getElem?_take, List.getElem?_drop] using this
    have hb : 0 ≤ n ∧ n ≤ 255 := by
      have := bounds_u8 h4
      omega
    simp only [W.bc, List.map_map, List.getElem?_map, h5, Option.map_some, Function.comp, toU8, W.bcell, W.ofNat_toNat]
    congr 2
    omega
  · rw [List.getElem?_eq_none (by rw [W.bc_length, List.length_map]; omega), List.getElem?_eq_none (by omega)]
end
theorem isD_of {H : Type} {enc : TypeId × Value → H} {w : World} {base : Nat} {spare : Nat → Bool} {held : Bool} {n : Nat} {x : Addr} {len cap m : Nat} {D : Nat → DataW H} {Pl : Nat → List MemPlace} (hl : len ≤ cap) (hm : cap ≤ maxLen) (hlm : len ≤ m)
    (hx : ∀ i, i < m → ∃ cs', w.cells? base (x.add (i * Try.prog.cellsOf 57)) (Try.prog.cellsOf 57) = some cs' ∧ DataW.trod enc Try.prog w base spare held n 57 cs' = some (D i, Pl i)) :
    ∃ F, IsD w (some x) len cap F := by
  have h16 : Try.prog.cellsOf 57 = 16 := by kernel_rfl
  rw [h16] at hx
  obtain ⟨G, hG⟩ : ∃ G : Nat → List UInt8, G = fun i => ((w.cells? base (x.add (i * 16)) 16).getD []).map toU8 := ⟨_, rfl⟩
  have hg : ∀ i, i < len → (G i).length = 16 ∧ ∀ r u, (W.bc (G i))[r]? = some u → w.cell? ((x.add (i * 16)).add r) = some u := by
    intro i hi
    obtain ⟨cs', h1, h2⟩ := hx i (by omega)
    obtain ⟨h3, h4⟩ := dig_open h2
    obtain ⟨_, h5, h6⟩ := World.cells?_some h1
    have h7 : G i = cs'.map toU8 := by rw [hG]; simp [h1]
    rw [h7]
    refine ⟨by simp [h3], fun r u hu => ?_⟩
    rw [h4] at hu
    have hr := (List.getElem?_eq_some_iff.1 hu).1
    rw [h6 r (by omega), hu]
  clear hG hx
  have hFl := flat16_len G len (fun i hi => (hg i hi).1)
  refine ⟨(List.range len).flatMap G, ?_, hFl, hl, hm⟩
  intro hn
  rw [W.bc_length, hFl] at hn
  have hbg : ∀ i, i < len → ∀ r, r < 16 → ∃ u, (W.bc (G i))[r]? = some u := fun i hi r hr => ⟨_, List.getElem?_eq_getElem (by rw [W.bc_length, (hg i hi).1]; exact hr)⟩
  obtain ⟨u0, hu0⟩ := hbg 0 (by omega) 0 (by omega)
  obtain ⟨b, off, spot⟩ := x
  have hspot : spot = none := by simpa [Addr.add] using World.cell?_spot ((hg 0 (by omega)).2 0 u0 hu0)
  subst hspot
  have hc : ∀ i, i < len → ∀ r u, (W.bc (G i))[r]? = some u → w.cell? ⟨b, off + (i * 16 + r), none⟩ = some u := fun i hi r u hu => by
    have h1 := (hg i hi).2 r u hu
    rw [Go.WideShapes.add_plain, Go.WideShapes.add_plain] at h1
    rw [← Nat.add_assoc]
    exact h1
  refine ⟨b, off, rfl, World.block_lt_of_cell? w ⟨b, off + (0 * 16 + 0), none⟩ (hc 0 (by omega) 0 u0 hu0), fun j u hu => ?_⟩
  have hj := (List.getElem?_eq_some_iff.1 hu).1
  rw [W.bc_length, hFl] at hj
  have hd := Nat.div_add_mod j 16
  have hm16 := Nat.mod_lt j (show 0 < 16 by omega)
  have hi : j / 16 < len := by omega
  have h1 := flat16_get G len (fun i hi => (hg i hi).1) (j / 16) (j % 16) hi hm16
  rw [show j / 16 * 16 + j % 16 = j from by omega] at h1
  have h2 := hc (j / 16) hi (j % 16) u (by
    rw [← hu]
    unfold W.bc
    rw [List.getElem?_map, List.getElem?_map, h1])
  rw [show j / 16 * 16 + j % 16 = j from by omega] at h2
  exact h2
end Go.Proofs.Ythgpgdpndionjaa
