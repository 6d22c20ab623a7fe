/-
 append onto a slice that is cut at its own length, whatever is appended; arguments as they come in.
-/
import Derived.Test.YtgdibcgphjmofaaMem
import Derived.Test.YtgdibcgphjmofaaWalkSame
import Derived.OpenShut
namespace Go.Proofs.Ytgdibcgphjmofaa
open Go.RowKit
section
variable {P : Program}
theorem wpList_append_full (w : World) {ops : Array Oper} {rest : List Oper} {o : Oper} {a : Act} {Q : Exit → Act → World → Prop}
  (hg : o.guard = none) (s x : Operand) (t : TypeId) (hop : o.op = Op.call { callee := Callee.builtin Builtin.append, args := #[s, x], argTypes := #[t, t] })
  (e : TypeId) (i : TypeInfo) (z : Value) (bytes : Nat) (h1 : P.underlying t = some (.slice e)) (h2 : P.info? e = some i) (h3 : i.zero = some z) (h4 : i.size = 1) (h5 : i.bytes = bytes) (h6 : z.cells.size = 1)
  (A : Option Addr) (n B : Nat) (olds : List Value) (hs : a.eval s = .slice A n n) (hA : Rd w B A olds) (hB : B ≤ w.heap.size) (hlo : olds.length = n) (hpos : 0 < n)
  (X : Option Addr) (m c B' : Nat) (news : List Value) (hx : a.eval x = .slice X m c) (hX : Rd w B' X news) (hn : news.length = m) (h1c : ∀ u ∈ news, u.oneCell' = true)
  (b1 : n + m ≤ maxLen) (b2 : (n + m) * bytes ≤ 140737488355328)
  (hK : ∀ A' c' w', Rd w' w'.heap.size A' (olds ++ news) → n + m ≤ c' → c' ≤ maxLen → Below w.heap.size w w' → wpList P ops Q rest (a.put o.dst (.slice A' (n + m) c')) w') :
  wpList P ops Q (o :: rest) a w := by
 obtain ⟨b, f, rfl, hb, hc⟩ := hA (by omega)
 rcases Nat.eq_zero_or_pos m with h0 | h0
 ·subst h0
  have hnews : news = [] := List.eq_nil_of_length_eq_zero hn
  subst hnews
  refine wpList_plain hg fun K hK' => ?_
  have hrun : (Builtin.append_ #[t, t] o.type #[.slice (some ⟨b, f, none⟩) n n, .slice X 0 c]).run P w = .ok (.slice (some ⟨b, f, none⟩) n n) w := by
   cases X with
   | none => simp [Builtin.append_, run_underlying h1, sizeOf, typeInfo, h2, Builtin.lenOf, Builtin.firstCells, storeCells]
   | some ad =>
    have := run_append_room_cells (P := P) w t o.type e i h1 h2 b f n n ad 0 c [] (by simp) (fun j u hu => by simp at hu) (fun u hu => by simp at hu) (by omega) (fun j hj => by simp at hj) (fun j hj => by simp at hj)
    simpa [World.setCells] using this
  unfold Oper.wp
  simp [execOp, hop, resolve, invoke, builtin, hs, hx, hrun, Result.andThen]
  refine hK' _ _ (hK (some ⟨b, f, none⟩) n w ?_ (by omega) (by omega) (Below.refl _ _))
  rw [List.append_nil]
  exact Rd.mono (fun _ => ⟨b, f, rfl, hb, hc⟩) hB
 ·obtain ⟨b', f', rfl, _, hc'⟩ := hX (by omega)
  refine wpList_append_grows w hg s x t hop e i z 1 bytes h1 h2 h3 h4 h5 h6 (by decide) (some ⟨b, f, none⟩) n n olds hs (fun h => by cases h) (by omega) (fun ad had j u hu => ?_) ⟨b', f', none⟩ m c news hx (by omega) (fun j u hu => ?_) h1c (by omega) b1 b2 (fun v' w' hown hgr => ?_)
  ·injection had with had
   subst had
   rw [Addr.add_lit]
   exact hc j u hu
  ·rw [Addr.add_lit]
   exact hc' j u hu
  ·obtain ⟨g, c', rfl, h7, h8, _, _⟩ := own_pos hown (by omega)
   exact hK _ _ _ (Rd.of_own hown) h7 h8 ⟨hgr.os, hgr.tape, hgr.output, hgr.size, fun k hk => hgr.block k hk (fun h => by cases h)⟩
end
/-- What is told of a slice of bytes that came in. -/
def IsB (w : World) (a : Option Addr) (len cap : Nat) (l : List UInt8) : Prop := Rd w w.heap.size a (W.bc l) ∧ len = l.length ∧ len ≤ cap ∧ cap ≤ maxLen
def IsI (w : World) (a : Option Addr) (len cap : Nat) (l : List Int) : Prop := Rd w w.heap.size a (ic l) ∧ len = l.length ∧ len ≤ cap ∧ cap ≤ maxLen ∧ ∀ x ∈ l, W.Is64 x
theorem isB_of {w : World} {x : Addr} {len cap : Nat} {zs : List Int} (hl : len ≤ cap) (hm : cap ≤ maxLen) (hz : zs.length = cap) (hcell : ∀ i, i < zs.length → w.cell? (x.add i) = some (.int .u8 (zs.getD i 0))) (hwf : ∀ n ∈ zs, (Lit.int .u8 n).wf = true) :
  ∃ l, IsB w (some x) len cap l := by
 refine ⟨(zs.take len).map fun n => UInt8.ofNat n.toNat, ?_, by simp; omega, hl, hm⟩
 intro hn
 simp at hn
 obtain ⟨b, o, rfl, hc⟩ := ints_at hcell (by omega)
 refine ⟨b, o, rfl, ?_, fun j u hu => ?_⟩
 ·exact World.block_lt_of_cell? w ⟨b, o + 0, none⟩ (hc 0 (by omega))
 ·have hj : j < (W.bc ((zs.take len).map fun n => UInt8.ofNat n.toNat)).length := (List.getElem?_eq_some_iff.1 hu).1
  simp at hj
  rw [hc j (by omega), ← hu]
  have hjz : j < zs.length := by omega
  have hwj := hwf zs[j] (List.getElem_mem hjz)
  have hb : 0 ≤ zs[j] ∧ zs[j] ≤ 255 := by
   have := bounds_u8 hwj
   omega
  simp only [W.bc, List.map_map]
  rw [List.getElem?_map, List.getElem?_take, if_pos (by omega), List.getElem?_eq_getElem hjz]
  simp only [Option.map_some, List.getD, List.getElem?_eq_getElem hjz, Option.getD_some, Function.comp, W.bcell, W.ofNat_toNat]
  congr 2
  omega
theorem isI_of {w : World} {x : Addr} {len cap : Nat} {zs : List Int} (hl : len ≤ cap) (hm : cap ≤ maxLen) (hz : zs.length = cap) (hcell : ∀ i, i < zs.length → w.cell? (x.add i) = some (.int .i64 (zs.getD i 0))) (hwf : ∀ n ∈ zs, (Lit.int .i64 n).wf = true) :
  ∃ l, IsI w (some x) len cap l := by
 refine ⟨zs.take len, ?_, by simp; omega, hl, hm, ?_⟩
 ·intro hn
  simp at hn
  obtain ⟨b, o, rfl, hc⟩ := ints_at hcell (by omega)
  refine ⟨b, o, rfl, ?_, fun j u hu => ?_⟩
  ·exact World.block_lt_of_cell? w ⟨b, o + 0, none⟩ (hc 0 (by omega))
  ·have hj : j < (ic (zs.take len)).length := (List.getElem?_eq_some_iff.1 hu).1
   simp at hj
   rw [hc j (by omega), ← hu]
   have hjz : j < zs.length := by omega
   simp only [ic]
   rw [List.getElem?_map, List.getElem?_take, if_pos (by omega), List.getElem?_eq_getElem hjz]
   simp only [Option.map_some, List.getD, List.getElem?_eq_getElem hjz, Option.getD_some]
 ·intro n hn
  have hwj := hwf n (List.mem_of_mem_take hn)
  have := bounds_i64 hwj
  unfold W.Is64
  omega
theorem isB_nil (w : World) : IsB w none 0 0 [] := ⟨Rd.nil _ _ _, rfl, Nat.le_refl _, by decide⟩
theorem isI_nil (w : World) : IsI w none 0 0 [] := ⟨Rd.nil _ _ _, rfl, Nat.le_refl _, by decide, by simp⟩
theorem is64_of {n : Int} (h : (Lit.int .i64 n).wf = true) : W.Is64 n := by
 have := bounds_i64 h
 unfold W.Is64
 omega
end Go.Proofs.Ytgdibcgphjmofaa
