/-
 append onto a slice that is cut at its own length, whatever is appended; arguments as they come in.
-/
import Derived.Test.YtgdibcgphjmofaaLnkZ
import Derived.Test.YtgdibcgphjmofaaMem
import Derived.Test.YtgdibcgphjmofaaWalkSame
import Derived.OpenShut
namespace Go.Proofs.Ytgdibcgphjmofaa
open Go.RowKit
open Go.Maps
set_option linter.unusedVariables false
/-- These ends stand, share no block, and none with ks or with what was there before B. -/
def Ends (B : Nat) : List Nat → World → List (Nat × K.E) → Prop
 | ks, w, [] => ∀ k ∈ ks, k < w.heap.size
 | ks, w, (b, S) :: es => ∃ own, EndAt w b own S ∧ (∀ x ∈ own, B ≤ x ∧ x ∉ ks) ∧ Ends B (own ++ ks) w es
section
variable {B : Nat} {w w' : World}
theorem Ends.kslt : ∀ {es : List (Nat × K.E)} {ks : List Nat}, Ends B ks w es → ∀ k ∈ ks, k < w.heap.size
 | [], _, h => h
 | (_, _) :: _, _, ⟨_, _, _, h⟩ => fun k hk => h.kslt k (by simp [hk])
/-- The ends stay where only R is turned. -/
theorem Ends.ext {R : List Nat} (hT : TT R w w') : ∀ {es : List (Nat × K.E)} {ks ks' : List Nat}, Ends B ks w es → (∀ x ∈ R, x ∈ ks) → (∀ k ∈ ks', k ∈ ks ∨ w.heap.size ≤ k) → (∀ k ∈ ks', k < w'.heap.size) → Ends B ks' w' es
 | [], _, _, _, _, _, h => h
 | (b, S) :: es, ks, ks', ⟨own, hE, hk, hr⟩, hR, hs, hl => by
  refine ⟨own, hE.tt hT (fun x hx e => (hk x hx).2 (hR x e)), fun x hx => ⟨(hk x hx).1, fun e => ?_⟩, hr.ext hT (fun x hx => by simp [hR x hx]) (fun k hk2 => ?_) (fun k hk2 => ?_)⟩
  ·rcases hs x e with h | h
   ·exact (hk x hx).2 h
   ·have := hE.lt x hx; omega
  ·rcases List.mem_append.1 hk2 with h | h
   ·exact .inl (by simp [h])
   ·rcases hs k h with h | h
    ·exact .inl (by simp [h])
    ·exact .inr h
  ·rcases List.mem_append.1 hk2 with h | h
   ·have := hE.lt k h; have := hT.1.size; omega
   ·exact hl k h
theorem Ends.below {es : List (Nat × K.E)} {ks : List Nat} (h : Ends B ks w es) (hb : Below w.heap.size w w') : Ends B ks w' es :=
 h.ext (R := []) ⟨Tc.of hb, KB.of hb⟩ (by simp) (fun k hk => .inl hk) (fun k hk => Nat.lt_of_lt_of_le (h.kslt k hk) hb.size)
theorem Ends.sub {es : List (Nat × K.E)} {ks ks' : List Nat} (h : Ends B ks w es) (hs : ∀ k ∈ ks', k ∈ ks) : Ends B ks' w es :=
 h.ext (R := []) ⟨Tc.refl _ _, KB.refl _⟩ (by simp) (fun k hk => .inl (hs k hk)) (fun k hk => h.kslt k (hs k hk))
theorem Ends.swap {x y : Nat × K.E} {es : List (Nat × K.E)} {ks : List Nat} (h : Ends B ks w (x :: y :: es)) : Ends B ks w (y :: x :: es) := by
 obtain ⟨bx, Sx⟩ := x
 obtain ⟨by_, Sy⟩ := y
 obtain ⟨ox, hx, hkx, oy, hy, hky, hr⟩ := h
 refine ⟨oy, hy, fun z hz => ⟨(hky z hz).1, fun e => (hky z hz).2 (by simp [e])⟩, ox, hx, fun z hz => ⟨(hkx z hz).1, fun e => ?_⟩, hr.sub (fun k hk => by
  simp only [List.mem_append] at hk ⊢
  rcases hk with h | h | h
  ·exact .inr (.inl h)
  ·exact .inl h
  ·exact .inr (.inr h))⟩
 rcases List.mem_append.1 e with h | h
 ·exact (hky z h).2 (by simp [hz])
 ·exact (hkx z hz).2 h
theorem Ends.rot {x : Nat × K.E} : ∀ {es : List (Nat × K.E)} {ks : List Nat}, Ends B ks w (x :: es) → Ends B ks w (es ++ [x])
 | [], _, h => h
 | y :: es, ks, h => by
  obtain ⟨by_, Sy⟩ := y
  obtain ⟨oy, hy, hky, hr⟩ := h.swap
  exact ⟨oy, hy, hky, hr.rot⟩
theorem Ends.new {es : List (Nat × K.E)} {ks : List Nat} (h : Ends B ks w es) {b : Nat} {own : List Nat} {S : K.E} (hE : EndAt w' b own S) (hb : Below w.heap.size w w') (ho : ∀ x ∈ own, w.heap.size ≤ x) (hB : B ≤ w.heap.size) : Ends B ks w' ((b, S) :: es) := by
 refine ⟨own, hE, fun x hx => ⟨by have := ho x hx; omega, fun e => by have := h.kslt x e; have := ho x hx; omega⟩, h.ext (R := []) ⟨Tc.of hb, KB.of hb⟩ (by simp) (fun k hk => ?_) (fun k hk => ?_)⟩
 ·rcases List.mem_append.1 hk with h2 | h2
  ·exact .inr (ho k h2)
  ·exact .inl h2
 ·rcases List.mem_append.1 hk with h2 | h2
  ·exact hE.lt k h2
  ·exact Nat.lt_of_lt_of_le (h.kslt k h2) hb.size
theorem Ends.add {es : List (Nat × K.E)} {ks : List Nat} (h : Ends B ks w es) (hb : Below w.heap.size w w') {k : Nat} (hk : w.heap.size ≤ k) (hk2 : k < w'.heap.size) : Ends B (k :: ks) w' es :=
 h.ext (R := []) ⟨Tc.of hb, KB.of hb⟩ (by simp) (fun x hx => by
  rcases List.mem_cons.1 hx with rfl | hx
  ·exact .inr hk
  ·exact .inl hx) (fun x hx => by
  rcases List.mem_cons.1 hx with rfl | hx
  ·exact hk2
  ·exact Nat.lt_of_lt_of_le (h.kslt x hx) hb.size)
/-- What a call at the first end leaves. -/
theorem Ends.step {b : Nat} {S' : K.E} {es : List (Nat × K.E)} {ks own own' : List Nat} (hk : ∀ x ∈ own, B ≤ x ∧ x ∉ ks) (hr : Ends B (own ++ ks) w es) (hEo : ∀ x ∈ own, x < w.heap.size) (hE : EndAt w' b own' S') (hT : TT own w w') (hn : ∀ x ∈ own', x ∈ own ∨ w.heap.size ≤ x) (hB : B ≤ w.heap.size) {r : Option Nat} (hrr : ∀ k, r = some k → w.heap.size ≤ k ∧ k < w'.heap.size ∧ k ∉ own') :
  Ends B (r.toList ++ ks) w' ((b, S') :: es) ∧ Kpt B ks w w' := by
 have hks : ∀ k ∈ ks, k < w.heap.size := fun k hk2 => hr.kslt k (by simp [hk2])
 refine ⟨⟨own', hE, fun x hx => ⟨?_, fun e => ?_⟩, hr.ext hT (fun x hx => by simp [hx]) (fun k hk2 => ?_) (fun k hk2 => ?_)⟩, hT.1.os, hT.1.tape, hT.1.output, hT.1.size, fun k hk2 hk3 => hT.1.block k hk3 (fun e => by have := (hk k e).1; omega), fun k hk2 => hT.1.block k (hks k hk2) (fun e => (hk k e).2 hk2), hT.2⟩
 ·rcases hn x hx with h | h
  ·exact (hk x h).1
  ·omega
 ·rcases List.mem_append.1 e with e | e
  ·exact (hrr x (by simpa using e)).2.2 hx
  ·rcases hn x hx with h | h
   ·exact (hk x h).2 e
   ·have := hks x e; omega
 ·rcases List.mem_append.1 hk2 with h | h
  ·rcases hn k h with h | h
   ·exact .inl (by simp [h])
   ·exact .inr h
  ·rcases List.mem_append.1 h with h | h
   ·exact .inr (hrr k (by simpa using h)).1
   ·exact .inl (by simp [h])
 ·rcases List.mem_append.1 hk2 with h | h
  ·exact hE.lt k h
  ·rcases List.mem_append.1 h with h | h
   ·exact (hrr k (by simpa using h)).2.1
   ·exact Nat.lt_of_lt_of_le (hks k h) hT.1.size
end
section
variable {B : Nat} {ks : List Nat} {w : World} {b : Nat} {S : K.E} {es : List (Nat × K.E)}
theorem ends_in (h : Ends B ks w ((b, S) :: es)) (hB : B ≤ w.heap.size) (ok : K.ok S) {x : Value} {l : List UInt8} (hbv : BV w x l) (hl : l.length ≤ 1000000000000) :
  Calls Try.prog 19 #[.pointer (some ⟨b, 0, none⟩), x] w fun e w' => ∃ v, e = .returned (.tuple #[v, .int .i64 (K.inn S l).2.1]) ∧ RowV w.heap.size w' v (K.inn S l).1 ∧ Ends B (v.ownBlock.toList ++ ks) w' ((b, (K.inn S l).2.2) :: es) ∧ Kpt B ks w w' := by
 obtain ⟨own, h1, h2, h3⟩ := h
 refine (in_any b own S x l w h1 ok hbv hl).mono ?_
 rintro e w' ⟨v, rfl, hr, hE, hT⟩
 exact ⟨v, rfl, hr, Ends.step h2 h3 h1.lt hE hT (fun x hx => .inl hx) hB (fun k hk => ⟨(hr.lt k hk).1, (hr.lt k hk).2, fun e => by have := h1.lt k e; have := (hr.lt k hk).1; omega⟩)⟩
theorem ends_out (h : Ends B ks w ((b, S) :: es)) (hB : B ≤ w.heap.size) (ok : K.ok S) :
  Calls Try.prog 13 #[.pointer (some ⟨b, 0, none⟩)] w fun e w' => ∃ v, e = .returned v ∧ RowV w.heap.size w' v (K.out S) ∧ Ends B (v.ownBlock.toList ++ ks) w' ((b, { S with owing := false }) :: es) ∧ Kpt B ks w w' := by
 obtain ⟨own, h1, h2, h3⟩ := h
 refine (out_any b own S w h1 ok).mono ?_
 rintro e w' ⟨v, rfl, hr, hE, hT⟩
 exact ⟨v, rfl, hr, Ends.step h2 h3 h1.lt hE hT (fun x hx => .inl hx) hB (fun k hk => ⟨(hr.lt k hk).1, (hr.lt k hk).2, fun e => by have := h1.lt k e; have := (hr.lt k hk).1; omega⟩)⟩
theorem ends_send (h : Ends B ks w ((b, S) :: es)) (hB : B ≤ w.heap.size) {x : Value} {l : List UInt8} (hbv : BV w x l) (h1 : l.length ≤ 65536) (h2 : S.wait.length < 1000) :
  Calls Try.prog 11 #[.pointer (some ⟨b, 0, none⟩), x] w fun e w' => e = .returned (.int .i64 0) ∧ Ends B ks w' ((b, { S with wait := S.wait ++ [l] }) :: es) ∧ Kpt B ks w w' := by
 obtain ⟨own, g1, g2, g3⟩ := h
 refine (send_yes b own S x l w g1 hbv h1 h2).mono ?_
 rintro e w' ⟨rfl, own', hE, hT, hn⟩
 have := Ends.step g2 g3 g1.lt hE hT hn hB (r := none) (fun k hk => by cases hk)
 exact ⟨rfl, this⟩
theorem ends_wait (h : Ends B ks w ((b, S) :: es)) : Calls Try.prog 21 #[.pointer (some ⟨b, 0, none⟩)] w fun e w' => e = .returned (.int .i64 (S.wait.length : Int)) ∧ w = w' := by
 obtain ⟨own, g1, _⟩ := h
 exact waiting_any b own S w g1
theorem ends_forg (h : Ends B ks w ((b, S) :: es)) : Calls Try.prog 22 #[.pointer (some ⟨b, 0, none⟩)] w fun e w' => e = .returned (.int .i64 S.forged) ∧ w = w' := by
 obtain ⟨own, g1, _⟩ := h
 exact forged_any b own S w g1
end
/-- A fresh end, whose state names no row of bytes: it stays though a row of bytes is turned. -/
theorem EndAt.set0 {w : World} {b : Nat} {own : List Nat} {win key : Int} (h : EndAt w b own (K.E0 win key)) {g i : Nat} (hg : g ∉ own) (u : Value) : EndAt (w.setCell ⟨g, i, none⟩ u) b own (K.E0 win key) := by
 obtain ⟨rv, vs, bm, D, h1, h2, h3, h4, h5, h6⟩ := h
 subst h6
 have hk : ∀ x ∈ b :: bm :: rv.ownBlock.toList, (w.setCell ⟨g, i, none⟩ u).heap[x]? = w.heap[x]? := fun x hx => Below.heap_setCell w ⟨g, i, none⟩ u x (fun e => hg (by rw [← show x = g from e]; exact hx))
 refine ⟨rv, vs, bm, D, (hk b (by simp)).trans h1, ?_, ⟨h3.1, fun i u l _ hl => by cases hl⟩, ?_, ?_, rfl⟩
 ·refine ⟨h2.1, ?_⟩
  rcases h2.2 with h | ⟨g, cap, cur, rfl, hb, hg, r⟩
  ·exact .inl h
  ·exact .inr ⟨g, cap, cur, rfl, hb, (hk g (by simp [Value.ownBlock])).trans hg, r⟩
 ·obtain ⟨es, ck, hb, r⟩ := h4
  exact ⟨es, ck, (hk bm (by simp)).trans hb, r⟩
 ·intro k hk
  have h7 := h5 k hk
  exact ⟨h7.1, fun l hl => by cases hl⟩
/-- One cell of a row of one's own is turned. -/
theorem own_put {w : World} {base e n g c : Nat} {xs : List Value} (h : w.ownsRow base e 1 (.slice (some ⟨g, 0, none⟩) n c) n xs) (i : Nat) (u : Value) : (w.setCell ⟨g, i, none⟩ u).ownsRow base e 1 (.slice (some ⟨g, 0, none⟩) n c) n (xs.set i u) := by
 refine ⟨by rw [List.length_set]; exact h.1, ?_⟩
 rcases h.2 with ⟨h, _⟩ | ⟨g', cap, cur, hv, hb, hg, h1, h2, h3, h4⟩
 ·cases h
 ·injection hv with hv1 hv2 hv3
  injection hv1 with hv1
  injection hv1 with hv1
  subst hv1
  refine .inr ⟨g, c, (cur.toList.set i u).toArray, rfl, hb, ?_, by omega, by omega, by simpa [hv3] using h3, ?_⟩
  ·simp [World.setCell, Array.getElem?_modify, hg]
   apply Array.toList_inj.1
   simp
  ·rw [← h4, List.take_set]
end Go.Proofs.Ytgdibcgphjmofaa
namespace Go.Proofs.Ytgdibcgphjmofaa
open Go.RowKit
section
variable {P : Program}
theorem wpList_append_full (w : World) {ops : Array Oper} {rest : List Oper} {o : Oper} {a : Act} {Q : Exit → Act → World → Prop}
  (hg : o.guard = none) (s x : Operand) (t : TypeId) (hop : o.op = Op.call { callee := Callee.builtin Builtin.append, args := #[s, x], argTypes := #[t, t] })
  (e : TypeId) (i : TypeInfo) (z : Value) (bytes : Nat) (h1 : P.underlying t = some (.slice e)) (h2 : P.info? e = some i) (h3 : i.zero = some z) (h4 : i.size = 1) (h5 : i.bytes = bytes) (h6 : z.cells.size = 1)
  (A : Option Addr) (n B : Nat) (olds : List Value) (hs : a.eval s = .slice A n n) (hA : Rd w B A olds) (hB : B ≤ w.heap.size) (hlo : olds.length = n) (hpos : 0 < n)
  (X : Option Addr) (m c B' : Nat) (news : List Value) (hx : a.eval x = .slice X m c) (hX : Rd w B' X news) (hn : news.length = m) (h1c : ∀ u ∈ news, u.oneCell' = true)
  (b1 : n + m ≤ maxLen) (b2 : (n + m) * bytes ≤ 140737488355328)
  (hK : ∀ A' c' w', Rd w' w'.heap.size A' (olds ++ news) → n + m ≤ c' → c' ≤ maxLen → Below w.heap.size w w' → wpList P ops Q rest (a.put o.dst (.slice A' (n + m) c')) w') :
  wpList P ops Q (o :: rest) a w := by
 obtain ⟨b, f, rfl, hb, hc⟩ := hA (by omega)
 rcases Nat.eq_zero_or_pos m with h0 | h0
 ·subst h0
  have hnews : news = [] := List.eq_nil_of_length_eq_zero hn
  subst hnews
  refine wpList_plain hg fun K hK' => ?_
  have hrun : (Builtin.append_ #[t, t] o.type #[.slice (some ⟨b, f, none⟩) n n, .slice X 0 c]).run P w = .ok (.slice (some ⟨b, f, none⟩) n n) w := by
   cases X with
   | none => simp [Builtin.append_, run_underlying h1, sizeOf, typeInfo, h2, Builtin.lenOf, Builtin.firstCells, storeCells]
   | some ad =>
    have := run_append_room_cells (P := P) w t o.type e i h1 h2 b f n n ad 0 c [] (by simp) (fun j u hu => by simp at hu) (fun u hu => by simp at hu) (by omega) (fun j hj => by simp at hj) (fun j hj => by simp at hj)
    simpa [World.setCells] using this
  unfold Oper.wp
  simp [execOp, hop, resolve, invoke, builtin, hs, hx, hrun, Result.andThen]
  refine hK' _ _ (hK (some ⟨b, f, none⟩) n w ?_ (by omega) (by omega) (Below.refl _ _))
  rw [List.append_nil]
  exact Rd.mono (fun _ => ⟨b, f, rfl, hb, hc⟩) hB
 ·obtain ⟨b', f', rfl, _, hc'⟩ := hX (by omega)
  refine wpList_append_grows w hg s x t hop e i z 1 bytes h1 h2 h3 h4 h5 h6 (by decide) (some ⟨b, f, none⟩) n n olds hs (fun h => by cases h) (by omega) (fun ad had j u hu => ?_) ⟨b', f', none⟩ m c news hx (by omega) (fun j u hu => ?_) h1c (by omega) b1 b2 (fun v' w' hown hgr => ?_)
  ·injection had with had
   subst had
   rw [Addr.add_lit]
   exact hc j u hu
  ·rw [Addr.add_lit]
   exact hc' j u hu
  ·obtain ⟨g, c', rfl, h7, h8, _, _⟩ := own_pos hown (by omega)
   exact hK _ _ _ (Rd.of_own hown) h7 h8 ⟨hgr.os, hgr.tape, hgr.output, hgr.size, fun k hk => hgr.block k hk (fun h => by cases h)⟩
end
/-- What is told of a slice of bytes that came in. -/
def IsB (w : World) (a : Option Addr) (len cap : Nat) (l : List UInt8) : Prop := Rd w w.heap.size a (W.bc l) ∧ len = l.length ∧ len ≤ cap ∧ cap ≤ maxLen
def IsI (w : World) (a : Option Addr) (len cap : Nat) (l : List Int) : Prop := Rd w w.heap.size a (ic l) ∧ len = l.length ∧ len ≤ cap ∧ cap ≤ maxLen ∧ ∀ x ∈ l, W.Is64 x
theorem isB_of {w : World} {x : Addr} {len cap : Nat} {zs : List Int} (hl : len ≤ cap) (hm : cap ≤ maxLen) (hz : zs.length = cap) (hcell : ∀ i, i < zs.length → w.cell? (x.add i) = some (.int .u8 (zs.getD i 0))) (hwf : ∀ n ∈ zs, (Lit.int .u8 n).wf = true) :
  ∃ l, IsB w (some x) len cap l := by
 refine ⟨(zs.take len).map fun n => UInt8.ofNat n.toNat, ?_, by simp; omega, hl, hm⟩
 intro hn
 simp at hn
 obtain ⟨b, o, rfl, hc⟩ := ints_at hcell (by omega)
 refine ⟨b, o, rfl, ?_, fun j u hu => ?_⟩
 ·exact World.block_lt_of_cell? w ⟨b, o + 0, none⟩ (hc 0 (by omega))
 ·have hj : j < (W.bc ((zs.take len).map fun n => UInt8.ofNat n.toNat)).length := (List.getElem?_eq_some_iff.1 hu).1
  simp at hj
  rw [hc j (by omega), ← hu]
  have hjz : j < zs.length := by omega
  have hwj := hwf zs[j] (List.getElem_mem hjz)
  have hb : 0 ≤ zs[j] ∧ zs[j] ≤ 255 := by
   have := bounds_u8 hwj
   omega
  simp only [W.bc, List.map_map]
  rw [List.getElem?_map, List.getElem?_take, if_pos (by omega), List.getElem?_eq_getElem hjz]
  simp only [Option.map_some, List.getD, List.getElem?_eq_getElem hjz, Option.getD_some, Function.comp, W.bcell, W.ofNat_toNat]
  congr 2
  omega
theorem isI_of {w : World} {x : Addr} {len cap : Nat} {zs : List Int} (hl : len ≤ cap) (hm : cap ≤ maxLen) (hz : zs.length = cap) (hcell : ∀ i, i < zs.length → w.cell? (x.add i) = some (.int .i64 (zs.getD i 0))) (hwf : ∀ n ∈ zs, (Lit.int .i64 n).wf = true) :
  ∃ l, IsI w (some x) len cap l := by
 refine ⟨zs.take len, ?_, by simp; omega, hl, hm, ?_⟩
 ·intro hn
  simp at hn
  obtain ⟨b, o, rfl, hc⟩ := ints_at hcell (by omega)
  refine ⟨b, o, rfl, ?_, fun j u hu => ?_⟩
  ·exact World.block_lt_of_cell? w ⟨b, o + 0, none⟩ (hc 0 (by omega))
  ·have hj : j < (ic (zs.take len)).length := (List.getElem?_eq_some_iff.1 hu).1
   simp at hj
   rw [hc j (by omega), ← hu]
   have hjz : j < zs.length := by omega
   simp only [ic]
   rw [List.getElem?_map, List.getElem?_take, if_pos (by omega), List.getElem?_eq_getElem hjz]
   simp only [Option.map_some, List.getD, List.getElem?_eq_getElem hjz, Option.getD_some]
 ·intro n hn
  have hwj := hwf n (List.mem_of_mem_take hn)
  have := bounds_i64 hwj
  unfold W.Is64
  omega
theorem isB_nil (w : World) : IsB w none 0 0 [] := ⟨Rd.nil _ _ _, rfl, Nat.le_refl _, by decide⟩
theorem isI_nil (w : World) : IsI w none 0 0 [] := ⟨Rd.nil _ _ _, rfl, Nat.le_refl _, by decide, by simp⟩
theorem is64_of {n : Int} (h : (Lit.int .i64 n).wf = true) : W.Is64 n := by
 have := bounds_i64 h
 unfold W.Is64
 omega
end Go.Proofs.Ytgdibcgphjmofaa
