/-
 THE WALK of the reference's In: plain laws; where the packet is refused.
-/
import Derived.Test.YtgdibcgphjmofaaRunD
namespace Go.Proofs.Ytgdibcgphjmofaa
open Go.RowKit
open Go.Maps
set_option linter.unusedVariables false
theorem Rn.look_cons (a : Int × List UInt8) (t : List (Int × List UInt8)) (k : Int) : Rn.look (a :: t) k = if a.1 = k then some a.2 else Rn.look t k := by
 unfold Rn.look
 rw [List.find?_cons]
 by_cases h : a.1 = k
 ·rw [if_pos h, show (a.1 == k) = true from beq_iff_eq.2 h]; rfl
 ·rw [if_neg h, show (a.1 == k) = false from beq_eq_false_iff_ne.2 h]
theorem Rn.look_out : ∀ (l : List (Int × List UInt8)) (k : Int), k ∉ l.map (·.1) → Rn.look l k = none
 | [], _, _ => rfl
 | a :: t, k, h => by
  rw [List.map_cons, List.mem_cons, not_or] at h
  rw [Rn.look_cons, if_neg (fun e => h.1 e.symm)]
  exact Rn.look_out t k h.2
theorem Rn.look_in : ∀ (l : List (Int × List UInt8)) (k : Int), Rn.look l k = none → k ∉ l.map (·.1)
 | [], _, _ => by simp
 | a :: t, k, h => by
  rw [Rn.look_cons] at h
  split at h
  ·cases h
  ·rename_i hne
   rw [List.map_cons, List.mem_cons, not_or]
   exact ⟨fun e => hne e.symm, Rn.look_in t k h⟩
theorem Rn.look_app (l : List (Int × List UInt8)) (p : Int) (s : List UInt8) (h : Rn.look l p = none) : Rn.look (l ++ [(p, s)]) = fun k => if k = p then some s else Rn.look l k := by
 funext k
 induction l with
 | nil =>
  rw [List.nil_append, Rn.look_cons]
  by_cases e : k = p
  ·rw [if_pos e.symm, if_pos e]
  ·rw [if_neg (fun h => e h.symm), if_neg e]
 | cons a t ih =>
  rw [Rn.look_cons] at h
  rw [List.cons_append, Rn.look_cons, Rn.look_cons]
  split at h
  ·cases h
  ·rename_i hne
   rw [ih h]
   by_cases e : k = p
   ·subst e
    rw [if_neg hne, if_pos rfl]
    simp
   ·rw [if_neg e]
    simp [e]
theorem Rn.look_rem : ∀ (l : List (Int × List UInt8)) (i : Nat) (s : Int) (x : List UInt8), (l.map (·.1)).Nodup → l[i]? = some (s, x) → Rn.look (l.take i ++ l.drop (i + 1)) = fun k => if k = s then none else Rn.look l k
 | [], _, _, _, _, h => by simp at h
 | a :: t, 0, s, x, nd, h => by
  simp at h
  subst h
  rw [List.map_cons, List.nodup_cons] at nd
  funext k
  rw [List.take_zero, List.nil_append, Rn.look_cons]
  show Rn.look t k = _
  by_cases e : k = s
  ·subst e; rw [if_pos rfl]; exact Rn.look_out t k nd.1
  ·rw [if_neg e, if_neg (fun h => e h.symm)]
 | a :: t, i + 1, s, x, nd, h => by
  rw [List.map_cons, List.nodup_cons] at nd
  have h' : t[i]? = some (s, x) := by simpa using h
  have ih := Rn.look_rem t i s x nd.2 h'
  funext k
  show Rn.look (a :: (t.take i ++ t.drop (i + 1))) k = _
  rw [Rn.look_cons, Rn.look_cons, ih]
  dsimp only
  by_cases e : k = s
  ·subst e
   rw [if_pos rfl, if_pos rfl, if_neg]
   intro e
   exact nd.1 (List.mem_map.2 ⟨_, List.mem_of_getElem? h', e.symm⟩)
  ·rw [if_neg e, if_neg e]
theorem Rn.nd_rem {l : List (Int × List UInt8)} (i : Nat) (nd : (l.map (·.1)).Nodup) : ((l.take i ++ l.drop (i + 1)).map (·.1)).Nodup := by
 rw [← List.eraseIdx_eq_take_drop_succ]
 exact List.Sublist.nodup ((List.eraseIdx_sublist l i).map _) nd
theorem Rn.nd_app {l : List (Int × List UInt8)} {p : Int} {s : List UInt8} (nd : (l.map (·.1)).Nodup) (h : Rn.look l p = none) : ((l ++ [(p, s)]).map (·.1)).Nodup := by
 rw [List.map_append, List.nodup_append]
 refine ⟨nd, by simp, fun a ha b hb e => ?_⟩
 simp at hb
 subst hb; subst e
 exact Rn.look_in l _ h ha
theorem Rn.find_some {l : List (Int × List UInt8)} {s : Int} {x : List UInt8} (h : Rn.look l s = some x) : ∃ i : Nat, Rn.find l s = (i : Int) ∧ l[i]? = some (s, x) ∧ i < l.length := by
 induction l with
 | nil => cases h
 | cons a t ih =>
  rw [Rn.look_cons] at h
  split at h
  ·rename_i e
   injection h with h
   refine ⟨0, ?_, ?_, by simp⟩
   ·unfold Rn.find
    rw [List.findIdx?_cons, show (a.1 == s) = true from beq_iff_eq.2 e]
    rfl
   ·simp [← e, ← h]
  ·rename_i e
   obtain ⟨i, h1, h2, h3⟩ := ih h
   refine ⟨i + 1, ?_, by simpa using h2, by simpa using h3⟩
   unfold Rn.find at h1 ⊢
   rw [List.findIdx?_cons, show (a.1 == s) = false from beq_eq_false_iff_ne.2 e]
   simp only [Bool.false_eq_true, if_false]
   rcases hf : t.findIdx? (fun x => x.1 == s) with _ | j
   ·rw [hf] at h1
    change (-1 : Int) = (i : Int) at h1
    omega
   ·rw [hf] at h1
    rw [hf]
    change ((j : Nat) : Int) = (i : Int) at h1
    show ((j + 1 : Nat) : Int) = ((i + 1 : Nat) : Int)
    omega
theorem Rn.find_none {l : List (Int × List UInt8)} {s : Int} (h : Rn.look l s = none) : Rn.find l s = -1 := by
 unfold Rn.find
 have : l.findIdx? (fun x => x.1 == s) = none := by
  rw [List.findIdx?_eq_none_iff]
  intro y hy
  exact beq_eq_false_iff_ne.2 fun e => Rn.look_in l s h (List.mem_map.2 ⟨y, hy, e⟩)
 rw [this]
theorem Rn.hc_one : ∀ (hs : List (Int × List UInt8)) (vs : List Value), (∀ u ∈ vs, u.oneCell' = true) → ∀ u ∈ Rn.hc hs vs, u.oneCell' = true
 | [], _, _, u, h => by simp [Rn.hc] at h
 | _ :: _, [], _, u, h => by simp [Rn.hc] at h
 | a :: hs, b :: vs, hv, u, h => by
  simp only [Rn.hc, List.mem_cons] at h
  rcases h with rfl | rfl | h
  ·rfl
  ·exact hv _ (by simp)
  ·exact Rn.hc_one hs vs (fun u hu => hv u (by simp [hu])) u h
theorem Rn.hc_take : ∀ (hs : List (Int × List UInt8)) (vs : List Value) (i : Nat), (Rn.hc hs vs).take (i * 2) = Rn.hc (hs.take i) (vs.take i)
 | hs, vs, 0 => by simp [Rn.hc]
 | [], vs, i + 1 => by simp [Rn.hc]
 | a :: hs, [], i + 1 => by simp [Rn.hc]
 | a :: hs, b :: vs, i + 1 => by
  rw [show (i + 1) * 2 = i * 2 + 1 + 1 by omega]
  simp only [Rn.hc, List.take_succ_cons]
  rw [Rn.hc_take hs vs i]
theorem Rn.hc_drop : ∀ (hs : List (Int × List UInt8)) (vs : List Value) (i : Nat), (Rn.hc hs vs).drop (i * 2) = Rn.hc (hs.drop i) (vs.drop i)
 | hs, vs, 0 => by simp
 | [], vs, i + 1 => by simp [Rn.hc]
 | a :: hs, [], i + 1 => by cases hs <;> simp [Rn.hc]
 | a :: hs, b :: vs, i + 1 => by
  rw [show (i + 1) * 2 = i * 2 + 1 + 1 by omega]
  simp only [Rn.hc, List.drop_succ_cons]
  rw [Rn.hc_drop hs vs i]
theorem Vs.app2 {w : World} {us ts : List Value} {ls ks : List (List UInt8)} (h : Vs w us ls) (g : Vs w ts ks) : Vs w (us ++ ts) (ls ++ ks) := by
 refine ⟨by simp [h.1, g.1], fun i v l h1 h2 => ?_⟩
 by_cases hi : i < us.length
 ·rw [List.getElem?_append_left hi] at h1
  rw [List.getElem?_append_left (by rw [← h.1]; exact hi)] at h2
  exact h.2 i v l h1 h2
 ·rw [List.getElem?_append_right (by omega)] at h1
  rw [List.getElem?_append_right (by rw [← h.1]; omega), ← h.1] at h2
  exact g.2 _ v l h1 h2
section
variable {w : World} {rv : Value} {hs ks : List (Int × List UInt8)} {us ts : List Value} {o : Oper} {a : Act} {x y : Operand}
set_option maxRecDepth 100000 in
/-- append of held messages onto a row of them. -/
theorem run_appH {ty : TypeId} {N m c : Nat} {p : Addr} (hown : w.ownsRow 0 78 2 rv N (Rn.hc hs us)) (hN : N = hs.length) (hus : Vs w us (hs.map (·.2))) (hm : m = ks.length) (hts : Vs w ts (ks.map (·.2)))
  (hc : ∀ j u, (Rn.hc ks ts)[j]? = some u → w.cell? (p.add j) = some u) (hb : N + m ≤ 1000000000) :
  ∃ v' w', (Builtin.append_ #[29, 29] ty #[rv, .slice (some p) m c]).run Try.prog w = .ok v' w' ∧ w'.ownsRow 0 78 2 v' (N + m) (Rn.hc (hs ++ ks) (us ++ ts)) ∧ w.grownBy w' rv.ownBlock ∧ KB w w' ∧
   Vs w' (us ++ ts) ((hs ++ ks).map (·.2)) ∧ (∀ k, v'.ownBlock = some k → rv.ownBlock = some k ∨ w.heap.size ≤ k) := by
 obtain ⟨v', w', r1, r2, r3, r4⟩ := run_append_own_at w 0 29 ty 78 _ _ 2 32 Try.underlying29 (P := Try.prog) rfl rfl rfl rfl rfl (by decide) rv N (Rn.hc hs us) hown p m c (Rn.hc ks ts)
  (by rw [Rn.hc_len ks ts (by rw [hts.1, List.length_map]), hm]) hc (Rn.hc_one ks ts hts.one) (by unfold maxLen; omega) (by omega) (Nat.zero_le _)
 have hkb : KB w w' := (KB.refl w).grown r3 (fun k hk cs fr e => by
  rcases hown.2 with ⟨rfl, _⟩ | ⟨g1, cap, cur, rfl, _, h4, _⟩
  ·simp [Value.ownBlock] at hk
  ·simp [Value.ownBlock] at hk
   subst hk
   rw [h4] at e
   injection e with e
   injection e with _ e _
   exact absurd e (by decide))
 refine ⟨v', w', r1, ?_, r3, hkb, ?_, fun k hk => ?_⟩
 ·rw [Rn.hc_app hs ks us ts (by rw [hus.1, List.length_map])]
  exact r2
 ·rw [List.map_append]
  exact (hus.app2 hts).kb hkb
 ·rcases r4.2 with h | h
  ·rw [h] at hk; exact .inl hk
  ·rw [h] at hk; injection hk with hk; exact .inr (by omega)
theorem wpList_appH {ops : Array Oper} {rest : List Oper} {Q : Exit → Act → World → Prop} {N m c : Nat} {p : Addr} (hgd : o.guard = none) (x y : Operand) (ho : o.op = .call { callee := .builtin .append, args := #[x, y], argTypes := #[29, 29] })
  (ex : a.eval x = rv) (ey : a.eval y = .slice (some p) m c) (hown : w.ownsRow 0 78 2 rv N (Rn.hc hs us)) (hN : N = hs.length) (hus : Vs w us (hs.map (·.2))) (hm : m = ks.length) (hts : Vs w ts (ks.map (·.2)))
  (hc : ∀ j u, (Rn.hc ks ts)[j]? = some u → w.cell? (p.add j) = some u) (hb : N + m ≤ 1000000000)
  (h : ∀ v' w', w'.ownsRow 0 78 2 v' (N + m) (Rn.hc (hs ++ ks) (us ++ ts)) → w.grownBy w' rv.ownBlock → KB w w' → Vs w' (us ++ ts) ((hs ++ ks).map (·.2)) → (∀ k, v'.ownBlock = some k → rv.ownBlock = some k ∨ w.heap.size ≤ k) → wpList Try.prog ops Q rest (a.put o.dst v') w') : wpList Try.prog ops Q (o :: rest) a w := by
 refine wpList_plain hgd fun K hK => ?_
 obtain ⟨v', w', r1, r2, r3, r4, r5, r6⟩ := run_appH (ty := o.type) hown hN hus hm hts hc hb
 unfold Oper.wp execOp
 simp only [ho, resolve, invoke, builtin, Sem.run_bind, Sem.run_pure, Result.andThen_ok, List.map_toArray, List.map_cons, List.map_nil, ex, ey]
 rw [r1]
 exact hK _ _ (h v' w' r2 r3 r4 r5 r6)
end
/-- A row of one held message, made by the region. -/
def SOneH (B : Nat) (p : Int) (s : List UInt8) : Sp := fun w v => ∃ g u, v = .slice (some ⟨g, 0, none⟩) 1 1 ∧ B ≤ g ∧ Bx w g 78 [.int .i64 p, u] ∧ BV w u s
theorem SOneH.mono (B : Nat) (p : Int) (s : List UInt8) : Mono (SOneH B p s) := fun _ _ _ ⟨g, u, h1, h2, h3, h4⟩ hb => ⟨g, u, h1, h2, h3.below hb, h4.below hb⟩
theorem SOneH.monoT {R : List Nat} {B : Nat} {p : Int} {s : List UInt8} (hR : ∀ k ∈ R, k < B) : MonoT (TT R) (SOneH B p s) := fun _ _ _ ⟨g, u, h1, h2, h3, h4⟩ hb => ⟨g, u, h1, h2, h3.tc hb.1 (fun e => by have := hR g e; omega), h4.kb hb.2⟩
def SAppH (R : List Nat) (B N : Nat) (hs : List (Int × List UInt8)) : Sp := fun w v => ∃ us, w.ownsRow 0 78 2 v N (Rn.hc hs us) ∧ Vs w us (hs.map (·.2)) ∧ ∀ k, v.ownBlock = some k → k ∈ R ∨ B ≤ k
theorem SAppH.mono (R : List Nat) (B N : Nat) (hs : List (Int × List UInt8)) : Mono (SAppH R B N hs) := fun _ _ _ ⟨us, h1, h2, h3⟩ hb => ⟨us, own_below h1 hb, h2.kb (.of hb), h3⟩
section
variable {o : Oper} {a : Act} {wx : World} {x y : Operand}
set_option maxRecDepth 100000 in
theorem op_oneH {S B : Nat} {p : Int} {s : List UInt8} {A : Option Addr} {n c : Nat} (ho : o.op = .buildSlice S 1 #[(0, x)]) (hx : a.eval x = .agg #[.int .i64 p, .slice A n c]) (hb : BV wx (.slice A n c) s) (hB : B ≤ wx.heap.size)
  (hr : (Instr.buildSlice S 1 #[(0, .agg #[.int .i64 p, .slice A n c])]).run Try.prog wx = .ok (.slice (some ⟨wx.heap.size, 0, none⟩) 1 1) (wx.alloc (.cells #[.int .i64 p, .slice A n c] 78)) := by simp [go_sem]) : Does Try.prog o (SOneH B p s) false a wx := by
 have h : ∀ ρ : Operand → Value, ρ x = .agg #[.int .i64 p, .slice A n c] → (execOp ρ o).run Try.prog wx = .ok (.value (.slice (some ⟨wx.heap.size, 0, none⟩) 1 1)) (wx.alloc (.cells #[.int .i64 p, .slice A n c] 78)) := by
  intro ρ e1; simp [execOp, ho, e1, hr, Result.andThen]
 exact .inl ⟨_, _, h _ hx, (Below.refl _ _).alloc (Nat.le_refl _) _, ⟨_, _, rfl, hB, Bx.at_ rfl, hb.alloc _⟩, fun h => by cases h⟩
theorem op_appH {R : List Nat} {N g : Nat} {rv u : Value} {us : List Value} {hs : List (Int × List UInt8)} {p : Int} {s : List UInt8} (ho : o.op = .call { callee := .builtin .append, args := #[x, y], argTypes := #[29, 29] })
  (ex : a.eval x = rv) (ey : a.eval y = .slice (some ⟨g, 0, none⟩) 1 1) (hown : wx.ownsRow 0 78 2 rv N (Rn.hc hs us)) (hN : N = hs.length) (hus : Vs wx us (hs.map (·.2))) (hg : Bx wx g 78 [.int .i64 p, u]) (hu : BV wx u s) (hb : N + 1 ≤ 1000000000) (hR : ∀ k, rv.ownBlock = some k → k ∈ R) {B : Nat} (hB : B ≤ wx.heap.size) :
  DoesT (TT R) Try.prog o (SAppH R B (N + 1) (hs ++ [(p, s)])) false a wx := by
 obtain ⟨v', w', r1, r2, r3, r4, r5, r6⟩ := run_appH (ty := o.type) (ks := [(p, s)]) (ts := [u]) (m := 1) (c := 1) (p := ⟨g, 0, none⟩) hown hN hus rfl (show Vs wx [u] [s] from ⟨rfl, fun i v l h1 h2 => by
  rcases i with _ | i
  ·simp at h1 h2; subst h1; subst h2; exact hu
  ·simp at h1⟩) (fun j z hz => by
  rw [Addr.add_lit, Nat.zero_add]; exact hg.cell hz) hb
 have h : ∀ ρ : Operand → Value, ρ x = rv → ρ y = .slice (some ⟨g, 0, none⟩) 1 1 → (execOp ρ o).run Try.prog wx = .ok (.value v') w' := by
  intro ρ e1 e2
  unfold execOp
  simp only [ho, resolve, invoke, builtin, Sem.run_bind, Sem.run_pure, Result.andThen_ok, List.map_toArray, List.map_cons, List.map_nil, e1, e2, r1]
 exact .inl ⟨v', w', h _ ex ey, ⟨(Tc.refl R wx).grown r3 (fun k hk => .inl (hR k hk)), r4⟩, ⟨_, r2, r5, fun k hk => by rcases r6 k hk with h | h; exact .inl (hR k h); exact .inr (by omega)⟩, fun h => by cases h⟩
end
end Go.Proofs.Ytgdibcgphjmofaa
namespace Go.Proofs.Ytgdibcgphjmofaa
set_option maxHeartbeats 1000000
open Go.RowKit
open Go.Maps
set_option linter.unusedVariables false
/-- What holds of its held messages. -/
structure Rn.hok (R : Rn.E) : Prop where
 nd : (R.held.map (·.1)).Nodup
 f : Rn.look R.held (R.got + 1) = none
/-- What In returns. -/
def RRIn (r : List (List UInt8) × Int × K.E) (b : Nat) (own : List Nat) (R : Rn.E) (w : World) (e : Ending) (w' : World) : Prop := ∃ v own' R', e = .returned (.tuple #[v, .int .i64 r.2.1]) ∧ RowV w.heap.size w' v r.1 ∧ R'.k = r.2.2 ∧ R'.sent = R.sent ∧ Rn.hok R' ∧ REnd w' b own' R' ∧ TT own w w' ∧ ∀ x ∈ own', x ∈ own ∨ w.heap.size ≤ x
theorem RRIn.same {b : Nat} {own : List Nat} {R R' : Rn.E} {w w' : World} {er : Int} {S : K.E} (hs : R'.k = S) (h1 : R'.sent = R.sent) (h2 : Rn.hok R') (he : REnd w' b own R') (t : TT own w w') : RRIn ([], er, S) b own R w (.returned (.tuple #[.slice none 0 0, .int .i64 er])) w' :=
 ⟨_, own, R', rfl, RowV.nil _ _, hs, h1, h2, he, t, fun x h => .inl h⟩
theorem Rn.k_sum {R : Rn.E} (ok : Rn.ok R) : R.k.acked + (R.k.wait.length : Int) = (R.sent.length : Int) := by
 have h1 := ok.k.a1; have h2 := ok.a
 unfold Rn.E.k at *
 simp only [List.length_drop] at *
 omega
theorem Rn.into_skip {R : Rn.E} (ok : Rn.ok R) {p q : Int} {s : List UInt8} (h : (R.sent.length : Int) < q ∨ R.got + 16 < p) : K.into R.k p q s = ([], 0, R.k) := by
 unfold K.into
 rw [Rn.k_sum ok, if_pos (show (R.sent.length : Int) < q ∨ R.k.del + 16 < p from h)]
theorem Rn.ackd {R : Rn.E} (h0 : 0 ≤ R.acked) (q : Int) : K.ackd R.k q = Rn.E.k { R with acked := max R.acked q } := by
 unfold K.ackd Rn.E.k
 simp only
 split
 ·rw [show max R.acked q = q by omega, List.drop_drop, show R.acked.toNat + (q - R.acked).toNat = q.toNat by omega]
 ·rw [show max R.acked q = R.acked by omega]
theorem Rn.into_zero {R : Rn.E} (ok : Rn.ok R) {q : Int} {s : List UInt8} (h : q ≤ (R.sent.length : Int)) : K.into R.k 0 q s = ([], 0, Rn.E.k { R with acked := max R.acked q }) := by
 unfold K.into
 rw [Rn.k_sum ok, if_neg (by have := ok.k.d1; show ¬ ((R.sent.length : Int) < q ∨ R.k.del + 16 < 0); omega), if_pos rfl, Rn.ackd ok.k.a1]
theorem Rn.into_old {R : Rn.E} (ok : Rn.ok R) (hk : Rn.hok R) {p q : Int} {s : List UInt8} (h : q ≤ (R.sent.length : Int)) (hp : p ≤ R.got + 16) (h0 : p ≠ 0) (ho : p ≤ R.got ∨ Rn.look R.held p ≠ none) : K.into R.k p q s = ([], 0, Rn.E.k { R with acked := max R.acked q, owing := true }) := by
 unfold K.into
 rw [Rn.k_sum ok, if_neg (by show ¬ ((R.sent.length : Int) < q ∨ R.got + 16 < p); omega), if_neg h0, Rn.ackd ok.k.a1, K.put_no (by
  show ¬ (R.got < p ∧ Rn.look R.held p = none)
  rintro ⟨h1, h2⟩
  rcases ho with h | h
  ·omega
  ·exact h h2)]
 rw [K.dlv_none (show Rn.look R.held (R.got + 1) = none from hk.f)]
 rfl
theorem Rn.into_new {R : Rn.E} (ok : Rn.ok R) {p q : Int} {s : List UInt8} (h : q ≤ (R.sent.length : Int)) (hp : p ≤ R.got + 16) (h0 : p ≠ 0) (hg : R.got < p) (hl : Rn.look R.held p = none) :
  K.into R.k p q s = ((K.dlv (R.held.length + 1) (Rn.E.k { R with acked := max R.acked q, owing := true, held := R.held ++ [(p, s)] })).1, 0, (K.dlv (R.held.length + 1) (Rn.E.k { R with acked := max R.acked q, owing := true, held := R.held ++ [(p, s)] })).2) := by
 unfold K.into
 rw [Rn.k_sum ok, if_neg (by show ¬ ((R.sent.length : Int) < q ∨ R.got + 16 < p); omega), if_neg h0, Rn.ackd ok.k.a1, K.put_yes (by exact hg) (by exact hl)]
 have e : ({ Rn.E.k { R with acked := max R.acked q } with owing := true, held := fun k => if k = p then some s else (Rn.E.k { R with acked := max R.acked q }).held k, cnt := (Rn.E.k { R with acked := max R.acked q }).cnt + 1 } : K.E) = Rn.E.k { R with acked := max R.acked q, owing := true, held := R.held ++ [(p, s)] } := by
  unfold Rn.E.k
  simp only [Rn.look_app R.held p s hl, List.length_append, List.length_singleton]
 rw [e]
 have e2 : (Rn.E.k { R with acked := max R.acked q, owing := true, held := R.held ++ [(p, s)] }).cnt = R.held.length + 1 := by
  unfold Rn.E.k
  simp
 rw [e2]
set_option maxRecDepth 100000 in
theorem rin_2 (b : Nat) (own : List Nat) (R : Rn.E) (x : Value) (l : List UInt8) (w : World) (h : REnd w b own R) (ok : Rn.ok R) (hk : Rn.hok R) (hbv : BV w x l) (hl : l.length ≤ 1000000000000) (hE : (K.unseal R.key l).2 = 2) :
  Calls Try.prog 20 #[.pointer (some ⟨b, 0, none⟩), x] w (RRIn ([], 2, R.k) b own R w) := by
 have hop := ropen_any R.key x l w ok.k.k hbv hl
 have HE := Lib.hid h; have HHK := Lib.hid hk
 have hf0 := ok.k.f1; have hf1 := ok.k.f2
 replace hf0 : 0 ≤ R.forged := hf0
 replace hf1 : R.forged ≤ 1000000000 := hf1
 obtain ⟨sv, hv, us, vs, hx, -⟩ := h
 obtain ⟨c0, c1, c2, c3, c4, c5, c6, c7, z, l0⟩ := hx.f8
 obtain ⟨A, c, rfl, -⟩ := hbv
 have hul := unseal_len R.key l
 obtain ⟨N, hN⟩ : ∃ N, N = l.length := ⟨_, rfl⟩
 rw [← hN] at hop hul hl ⊢
 have HOP := Lib.hid hop; have HER := Lib.hid hE
 clear hop hE hN ok hk
 go_enter Try.func20, Try.ntmps20
 go_wp2_with fail
 refine HOP.out.mono ?_
 rintro e w1 ⟨v1, rfl, hown, hb⟩
 rw [HER.out]
 have HB := Lib.hid hb
 clear hown hb c0 c1 c2 c3 c4 c5 c6 c7 z hx
 go_wp2
 go_ret2
 exact RRIn.same rfl rfl HHK.out (HE.out.below HB.out) ⟨Tc.of HB.out, KB.of HB.out⟩
set_option maxRecDepth 100000 in
theorem rin_9 (b : Nat) (own : List Nat) (R : Rn.E) (x : Value) (l : List UInt8) (w : World) (h : REnd w b own R) (ok : Rn.ok R) (hk : Rn.hok R) (hbv : BV w x l) (hl : l.length ≤ 1000000000000) (hE : (K.unseal R.key l).2 = 9) :
  Calls Try.prog 20 #[.pointer (some ⟨b, 0, none⟩), x] w (RRIn ([], 9, Rn.E.k { R with forged := R.forged + 1 }) b own R w) := by
 have hop := ropen_any R.key x l w ok.k.k hbv hl
 have HE := Lib.hid h; have HHK := Lib.hid hk
 have hf0 := ok.k.f1; have hf1 := ok.k.f2
 replace hf0 : 0 ≤ R.forged := hf0
 replace hf1 : R.forged ≤ 1000000000 := hf1
 obtain ⟨sv, hv, us, vs, hx, -⟩ := h
 obtain ⟨c0, c1, c2, c3, c4, c5, c6, c7, z, l0⟩ := hx.f8
 obtain ⟨A, c, rfl, -⟩ := hbv
 have hul := unseal_len R.key l
 obtain ⟨N, hN⟩ : ∃ N, N = l.length := ⟨_, rfl⟩
 rw [← hN] at hop hul hl ⊢
 have HOP := Lib.hid hop; have HER := Lib.hid hE
 clear hop hE hN ok hk
 go_enter Try.func20, Try.ntmps20
 go_wp2_with fail
 refine HOP.out.mono ?_
 rintro e w1 ⟨v1, rfl, hown, hb⟩
 rw [HER.out]
 have hx1 := hx.below hb
 have HB := Lib.hid hb
 clear hown hb c0 c1 c2 c3 c4 c5 c6 c7 z hx
 obtain ⟨c0, c1, c2, c3, c4, c5, c6, c7, z, l0⟩ := hx1.f8
 go_wp2
 go_ret2
 obtain ⟨h1, t1⟩ := (HE.out.below HB.out).set_ 7 (.int .i64 (R.forged + 1)) { R with forged := R.forged + 1 } (fun _ _ => rfl) rfl rfl
 exact RRIn.same rfl rfl ⟨HHK.out.nd, HHK.out.f⟩ h1 ((TT.rel own).trans ⟨Tc.of HB.out, KB.of HB.out⟩ t1)
attribute [local go_sem] run_store_one in
set_option maxRecDepth 100000 in
theorem rin_no (b : Nat) (own : List Nat) (R : Rn.E) (x : Value) (l : List UInt8) (w : World) (h : REnd w b own R) (ok : Rn.ok R) (hk : Rn.hok R) (hbv : BV w x l) (hl : l.length ≤ 1000000000000) (hE : (K.unseal R.key l).2 = 0) (hR : K.read (K.unseal R.key l).1 = none) :
  Calls Try.prog 20 #[.pointer (some ⟨b, 0, none⟩), x] w (RRIn ([], 2, R.k) b own R w) := by
 have hop := ropen_any R.key x l w ok.k.k hbv hl
 have HE := Lib.hid h; have HHK := Lib.hid hk
 have hf0 := ok.k.f1; have hf1 := ok.k.f2
 replace hf0 : 0 ≤ R.forged := hf0
 replace hf1 : R.forged ≤ 1000000000 := hf1
 obtain ⟨sv, hv, us, vs, hx, -⟩ := h
 obtain ⟨c0, c1, c2, c3, c4, c5, c6, c7, z, l0⟩ := hx.f8
 obtain ⟨A, c, rfl, -⟩ := hbv
 have hul := unseal_len R.key l
 obtain ⟨N, hN⟩ : ∃ N, N = l.length := ⟨_, rfl⟩
 rw [← hN] at hop hul hl ⊢
 have HOP := Lib.hid hop; have HER := Lib.hid hE; have HRD := Lib.hid hR
 clear hop hR hE hN ok hk
 go_enter Try.func20, Try.ntmps20
 go_wp2_with fail
 refine HOP.out.mono ?_
 rintro e w1 ⟨v1, rfl, hown, hb⟩
 rw [HER.out]
 have hown0 := hown
 obtain ⟨A1, c1', e1, -⟩ := hown
 obtain ⟨n1, hn1⟩ : ∃ n, n = (K.unseal R.key l).1.length := ⟨_, rfl⟩
 rw [← hn1] at e1
 subst e1
 have hrd := rread_bv hown0 (by omega)
 rw [HRD.out] at hrd
 have HRR := Lib.hid hrd
 have HB := Lib.hid hb
 clear hown0 hb c0 c1 c2 c3 c4 c5 c6 c7 z hrd hx hn1
 go_wp2_with fail
 refine HRR.out.mono ?_
 rintro e w2 ⟨u0, u1, u2, rfl, o0, o1, o2, k1⟩
 have k0 := Lib.hid (Blw HB.out k1)
 have hsz := k1.size
 clear k1
 go_wp2
 go_ret2
 exact RRIn.same rfl rfl HHK.out (HE.out.below (k0.out.alloc k0.out.size _)) ⟨Tc.of (k0.out.alloc k0.out.size _), KB.of (k0.out.alloc k0.out.size _)⟩
end Go.Proofs.Ytgdibcgphjmofaa
