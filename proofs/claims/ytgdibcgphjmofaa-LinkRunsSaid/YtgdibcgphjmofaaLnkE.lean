/-
 append of what lies somewhere (nil too); slices.Grow of nil; slices.Concat of two slices of bytes.
-/
import Derived.Test.YtgdibcgphjmofaaLnkD
import Derived.Test.YtgdibcgphjmofaaWalkREnc
import Derived.Laws.AppendOwnNone
import Derived.Lib.AppendZeros
import Derived.Lib.JoinLaws
namespace Go.Proofs.Ytgdibcgphjmofaa
set_option maxHeartbeats 2000000
open Go.RowKit
set_option linter.unusedVariables false
section
variable {P : Program}
theorem run_append_rd {w : World} (base : Nat) (t ty e : TypeId) (i : TypeInfo) (z : Value) (bytes : Nat) (ht : P.underlying t = some (.slice e)) (hi : P.info? e = some i) (hz : i.zero = some z) (hsize : i.size = 1) (hby : i.bytes = bytes) (hzs : z.cells.size = 1)
  (v : Value) (n : Nat) (xs : List Value) (hown : w.ownsRow base e 1 v n xs) (A : Option Addr) (m c B : Nat) (news : List Value) (hr : Rd w B A news) (hl : news.length = m) (h1 : ∀ u ∈ news, u.oneCell' = true)
  (h63 : n + m ≤ maxLen) (hbytes : (n + m) * bytes ≤ 140737488355328) (hbase : base ≤ w.heap.size) :
  ∃ v' w', (Builtin.append_ #[t, t] ty #[v, .slice A m c]).run P w = .ok v' w' ∧ w'.ownsRow base e 1 v' (n + m) (xs ++ news) ∧ w.grownBy w' v.ownBlock := by
 cases A with
 | some ad =>
  have hc : ∀ j u, news[j]? = some u → w.cell? (ad.add j) = some u := fun j u hu => by
   have hp : 0 < news.length := Nat.lt_of_le_of_lt (Nat.zero_le _) (List.getElem?_eq_some_iff.1 hu).1
   obtain ⟨b, o, e1, _, hc⟩ := hr hp
   injection e1 with e1
   subst e1
   rw [Addr.add_lit]
   exact hc j u hu
  obtain ⟨v', w', r1, r2, r3, _⟩ := run_append_own (P := P) w base t ty e i z 1 bytes ht hi hz hsize hby hzs (by decide) v n xs hown ad m c news (by omega) hc h1 h63 hbytes hbase
  exact ⟨v', w', r1, r2, r3⟩
 | none =>
  have h0 : news = [] := by
   rcases Nat.eq_zero_or_pos news.length with h | h
   ·exact List.eq_nil_of_length_eq_zero h
   ·obtain ⟨b, o, e1, _⟩ := hr h
    cases e1
  subst h0
  obtain rfl : m = 0 := by simpa using hl.symm
  refine ⟨v, w, ?_, by simpa using hown, ⟨rfl, rfl, rfl, Nat.le_refl _, fun _ _ _ => rfl⟩⟩
  rcases hown.2 with ⟨rfl, rfl⟩ | ⟨g, cap, cur, rfl, _, hg, hn, _⟩
  ·simp [Builtin.append_, run_underlying ht, sizeOf, typeInfo, hi, Builtin.lenOf, Builtin.firstCells]
  ·simp [Builtin.append_, run_underlying ht, sizeOf, typeInfo, hi, Builtin.lenOf, Builtin.firstCells, storeCells, hn]
theorem wpList_append_rd {w : World} {ops : Array Oper} {rest : List Oper} {o : Oper} {a : Act} {Q : Exit → Act → World → Prop} (hgd : o.guard = none) (s x : Operand) (t : TypeId)
  (ho : o.op = .call { callee := .builtin .append, args := #[s, x], argTypes := #[t, t] }) (base : Nat) (e : TypeId) (i : TypeInfo) (z : Value) (bytes : Nat) (ht : P.underlying t = some (.slice e)) (hi : P.info? e = some i) (hz : i.zero = some z) (hsize : i.size = 1) (hby : i.bytes = bytes) (hzs : z.cells.size = 1)
  (v : Value) (n : Nat) (xs : List Value) (hs : a.eval s = v) (hown : w.ownsRow base e 1 v n xs) (A : Option Addr) (m c B : Nat) (news : List Value) (hx : a.eval x = .slice A m c) (hr : Rd w B A news) (hl : news.length = m) (h1 : ∀ u ∈ news, u.oneCell' = true)
  (h63 : n + m ≤ maxLen) (hbytes : (n + m) * bytes ≤ 140737488355328) (hbase : base ≤ w.heap.size)
  (h : ∀ v' w', w'.ownsRow base e 1 v' (n + m) (xs ++ news) → w.grownBy w' v.ownBlock → wpList P ops Q rest (a.put o.dst v') w') : wpList P ops Q (o :: rest) a w := by
 refine wpList_plain hgd fun K hK => ?_
 obtain ⟨v', w', hr', h2, h3⟩ := run_append_rd (P := P) base t o.type e i z bytes ht hi hz hsize hby hzs v n xs hown A m c B news hr hl h1 h63 hbytes hbase
 unfold Oper.wp execOp
 simp only [ho, resolve, invoke, builtin, Sem.run_bind, Sem.run_pure, Result.andThen_ok, List.map_toArray, List.map_cons, List.map_nil, hs, hx, hr']
 exact hK _ _ (h v' w' h2 h3)
end
theorem RB_.of {T n : Nat} {l : List UInt8} {w w' : World} {e : Ending} (h : Mk T n (W.bc l) l.length w e w') (hT : T = 5 := by rfl) (hn : n = 1 := by rfl) : RB_ l w e w' := by
 subst hT; subst hn; exact h
set_option maxRecDepth 100000 in
theorem grow_nil (n : Nat) (w : World) (hn : n ≤ 140737488355328) : Calls Try.prog 51 #[.slice none 0 0, .int .i64 (n : Int)] w (RB_ [] w) := by
 obtain ⟨i0, hi, hz0, hz1, hz2⟩ := info_parts info_u8
 by_cases h0 : 0 < n
 ·have hp : (0 : Int) < (n : Int) := by omega
  have hr := Lib.run_append_nil_zeros (P := Try.prog) w 33 3 0 5 i0 (.int .u8 0) .i64 .i64 Try.underlying33 Try.underlying3 hi hz0 n h0 (by omega) (by omega) (by rw [hz2]; omega)
  have hcg := grownCap_ge w n 0 5
  have hcl := grownCap_le_maxLen w n 0 5 (by unfold maxLen; omega)
  generalize hC : grownCap w n 0 5 = C at *
  have HR := Lib.hid hr; clear hr hC
  go_enter Try.func51, Try.ntmps51
  go_wp2_with (at_builtin; refine Lib.wpList_append_run _ rfl (.tmp 20) (.tmp 21) _ _ rfl _ _ rfl rfl _ _ HR.out ?_)
  go_wp2
  go_ret
  have ho := World.ownsRow_made (base := w.heap.size) (e := 5) (size := 1) w.drew (Builtin.zeroCells (Value.cells (.int .u8 0)) n ++ Builtin.zeroCells (Value.cells (.int .u8 0)) (C - n)) C (Nat.le_refl _) hcl (by rw [Array.size_append, size_zeroCells, size_zeroCells]; simp [Value.cells]; omega)
  exact ⟨_, rfl, ho, (Below.refl _ _).drew.alloc (Nat.le_refl _) _⟩
 ·obtain rfl : n = 0 := by omega
  go_enter Try.func51, Try.ntmps51
  go_wp2
  go_ret
  exact ⟨_, rfl, World.ownsRow_nil _ _ _ _, Below.refl _ _⟩
end Go.Proofs.Ytgdibcgphjmofaa
