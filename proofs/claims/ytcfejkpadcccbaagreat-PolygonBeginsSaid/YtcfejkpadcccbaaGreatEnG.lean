/-
 THE ENGINE, 7: regions, in the text's order and in any.
-/
import Derived.Test.YtcfejkpadcccbaaGreatEnF
namespace Go.Proofs.YtcfejkpadcccbaaGreat.E
open Go.RowKit
set_option linter.unusedVariables false
set_option linter.unusedSimpArgs false
theorem setAt_get {h : List HO} {b : Nat} {x : HO} (c : Nat) : (setAt h b x).getD c .dead = if c = b then x else h.getD c .dead := by
 unfold setAt
 split
 · rename_i hb
   have hb := Nat.le_of_ble_eq_true hb
   simp only [List.getD_eq_getElem?_getD]
   by_cases hc : c = b
   · subst hc
     rw [if_pos rfl, List.getElem?_append_right (by simp; omega)]
     simp
     rw [show c - (h.length + (c - h.length)) = 0 by omega]
     rfl
   · rw [if_neg hc]
     rcases Nat.lt_or_ge c h.length with h1 | h1
     · rw [List.append_assoc, List.getElem?_append_left h1]
     · rw [List.getElem?_eq_none h1]
       rcases Nat.lt_or_ge c b with h2 | h2
       · rw [List.getElem?_append_left (by simp; omega), List.getElem?_append_right h1, List.getElem?_replicate, if_pos (by omega)]
         rfl
       · rw [List.getElem?_eq_none (by simp; omega)]
 · rename_i hb
   have hb : b < h.length := by
    rcases Nat.lt_or_ge b h.length with h1 | h1
    · exact h1
    · rw [Nat.ble_eq_true_of_le h1] at hb; cases hb
   simp only [List.getD_eq_getElem?_getD]
   by_cases hc : c = b
   · subst hc; rw [if_pos rfl, List.getElem?_set_self hb]; rfl
   · rw [if_neg hc, List.getElem?_set_ne (fun e => hc e.symm)]
theorem setAt_len {h : List HO} {b : Nat} {x : HO} : h.length ≤ (setAt h b x).length ∧ b < (setAt h b x).length := by
 unfold setAt
 split
 · rename_i hb
   have hb := Nat.le_of_ble_eq_true hb
   simp
   omega
 · rename_i hb
   have hb : b < h.length := by
    rcases Nat.lt_or_ge b h.length with h1 | h1
    · exact h1
    · rw [Nat.ble_eq_true_of_le h1] at hb; cases hb
   simpa using hb
theorem apps_ho {h : List HO} : ∀ (ws : List (Nat × HO)) (c : Nat), (apps h ws).getD c .dead = upds (fun b => h.getD b .dead) ws c
 | [], _ => rfl
 | (b, x) :: r, c => by
  show (setAt (apps h r) b x).getD c .dead = upd _ b x c
  rw [setAt_get]
  by_cases hc : c = b
  · rw [if_pos hc]; subst hc; exact upd_eq.symm
  · rw [if_neg hc, upd_ne hc, apps_ho r c]
theorem apps_len {h : List HO} : ∀ (ws : List (Nat × HO)), h.length ≤ (apps h ws).length ∧ ∀ b ∈ ws.map (·.1), b < (apps h ws).length
 | [] => ⟨Nat.le_refl _, fun _ h => by cases h⟩
 | (b, x) :: r => by
  obtain ⟨h1, h2⟩ := apps_len (h := h) r
  have h3 := setAt_len (h := apps h r) (b := b) (x := x)
  refine ⟨Nat.le_trans h1 h3.1, fun c hc => ?_⟩
  simp only [List.map_cons, List.mem_cons] at hc
  rcases hc with rfl | hc
  · exact h3.2
  · exact Nat.lt_of_lt_of_le (h2 c hc) h3.1
/-- What is written depends on the writes alone. -/
theorem upds_in {h h' : Nat → HO} : ∀ {ws : List (Nat × HO)} {b : Nat}, b ∈ ws.map (·.1) → upds h ws b = upds h' ws b
 | [], _, e => by cases e
 | (c, x) :: r, b, e => by
  by_cases hb : b = c
  · subst hb; exact upd_eq.trans upd_eq.symm
  · simp only [List.map_cons, List.mem_cons] at e
    exact ((upd_ne hb).trans (upds_in (e.resolve_left hb))).trans (upd_ne hb).symm
theorem upds_out {h : Nat → HO} : ∀ {ws : List (Nat × HO)} {b : Nat}, b ∉ ws.map (·.1) → upds h ws b = h b
 | [], _, _ => rfl
 | (c, x) :: r, b, e => by
  simp only [List.map_cons, List.mem_cons, not_or] at e
  exact (upd_ne e.1).trans (upds_out e.2)
section
variable {s : Bool} {B : Nat} {M : Nat → Prop} {P : Program} {ops : Array Oper}
/-- What is asked ahead of an operation, and what it does. -/
def StepOk (s : Bool) (B : Nat) (M : Nat → Prop) (P : Program) (ops : Array Oper) (o : Oper) (σ : St) (v : V) (ws : List (Nat × HO)) (rd : List Nat) : Prop :=
 ∀ (a : Act) (w : World) (h : Nat → HO) (m : Nat → Option Value), Ok s B M h m w → Opd s w (Av M h m) m o a σ →
  (∀ j c d, o.guard = some (j, c) → (ops[j]?).bind (·.dst) = some d → Rep s w (Av M h m) m (a.eval (.tmp d)) (σ.t.getD d .un)) →
  (∀ b ∈ rd, h b = σ.ho b) → (∀ b ∈ ws.map (·.1), b < σ.h.length → h b = σ.ho b) → (∀ b ∈ ws.map (·.1), σ.h.length ≤ b → h b = .dead ∧ m b = none) →
  (Region.wanted o (yielded ops a.tmps) = true ∧ Exec P o a w (Post s B M h m w ws v)) ∨ (Region.wanted o (yielded ops a.tmps) = false ∧ Post s B M h m w ws v undef w)
theorem set_same {l : List V} {d : Nat} {x : V} (h : l.getD d .un = x) (hx : x ≠ .un) : l.set d x = l := by
 apply List.ext_getElem?
 intro i
 rw [List.getD_eq_getElem?_getD] at h
 by_cases hi : d = i
 · subst hi
   cases h1 : l[d]? with
   | none => rw [h1] at h; exact absurd h.symm hx
   | some y =>
     rw [h1] at h
     rw [List.getElem?_set_self (List.getElem?_eq_some_iff.1 h1).1]
     exact congrArg some h.symm
 · rw [List.getElem?_set_ne hi]
theorem want_ok {o : Oper} {σ σ' : St} {g g' : List (Nat × Bool)} {sc sc' : List (Fa s P)} {b : Bool} {k : Ks} (e : wantV ops o g σ sc = some (b, g', σ', sc', k)) (hk : ∀ p ∈ k, p.1 = p.2) : σ' = σ ∧ ∀ {a : Act} {w : World} {A : Nat → Prop} {m : Nat → Option Value},
  (∀ j c d, o.guard = some (j, c) → (ops[j]?).bind (·.dst) = some d → Rep s w A m (a.eval (.tmp d)) (σ.t.getD d .un)) → Region.wanted o (yielded ops a.tmps) = b := by
 unfold wantV at e
 split at e
 · rename_i hg
   simp only [Option.some.injEq, Prod.mk.injEq] at e
   obtain ⟨rfl, rfl, rfl, rfl, rfl⟩ := e
   exact ⟨rfl, fun H => wanted_none hg⟩
 · rename_i j want hg
   split at e
   · rename_i d hd
     split at e
     · rename_i t ht
       split at e
       · rename_i b0 hb
         simp only [Option.some.injEq, Prod.mk.injEq] at e
         obtain ⟨rfl, rfl, rfl, rfl, rfl⟩ := e
         have hkey := hk _ (List.mem_singleton.2 rfl)
         simp only [List.cons.injEq, V.k.injEq, Value.bool.injEq, and_true] at hkey
         refine ⟨rfl, fun H => ?_⟩
         have hr := H j want d hg hd
         rw [ht] at hr
         rw [wanted_of hg hd (Rep.k_inv hr), hkey]
       · split at e
         · rename_i t0 b0 hb sc''
           simp only [Option.some.injEq, Prod.mk.injEq] at e
           obtain ⟨rfl, rfl, rfl, rfl, rfl⟩ := e
           have hkey := hk _ (List.mem_singleton.2 rfl)
           simp only [List.cons.injEq, V.k.injEq, Value.bool.injEq, and_true] at hkey
           subst hkey
           subst hb
           refine ⟨by rw [set_same ht (by simp)], fun H => ?_⟩
           have hr := H j want d hg hd
           rw [ht] at hr
           rw [wanted_of hg hd (Rep.k_inv hr)]
         · cases e
     · rename_i vs ht
       simp only [Option.some.injEq, Prod.mk.injEq] at e
       obtain ⟨rfl, rfl, rfl, rfl, rfl⟩ := e
       refine ⟨rfl, fun {a} _ _ _ H => ?_⟩
       have hr := H j want d hg hd
       rw [ht] at hr
       have he := Rep.k_inv hr
       have hy : yielded ops a.tmps j = none := by
        simp only [yielded, hd, Option.bind_some]
        simp only [Act.eval, Array.getD_eq_getD_getElem?] at he
        cases h1 : a.tmps[d]? with
        | none => rfl
        | some x => rw [h1] at he; simp at he; rw [he]
       unfold Region.wanted
       rw [hg]
       simp only [hy]
       rfl
     · cases e
   · cases e
theorem chg_ok {d : Option Nat} {v v' : V} {sc sc' : List (Fa s P)} {k : Ks} (e : chg d v sc = (v', sc', k)) (hk : ∀ p ∈ k, p.1 = p.2) : v = v' := by
 unfold chg at e
 split at e
 · rename_i d' t v0 v1 hv sc0
   split at e
   · simp only [Prod.mk.injEq] at e
     obtain ⟨rfl, rfl, rfl⟩ := e
     have hkey := hk _ (List.mem_singleton.2 rfl)
     simp only [List.cons.injEq, and_true] at hkey
     rw [hkey, hv]
   · simp only [Prod.mk.injEq] at e
     exact e.1
 · simp only [Prod.mk.injEq] at e
   exact e.1
theorem stepR_ok {o : Oper} {σ σ' : St} {g g' : List (Nat × Bool)} {fp : Fp} {sc sc' : List (Fa s P)} {k : Ks} (e : stepR s P ops o g σ sc = some (g', σ', fp, sc', k)) (hk : ∀ p ∈ k, p.1 = p.2) :
  ∃ v ws, σ' = ⟨σ.put o.dst v, apps σ.h ws⟩ ∧ fp.ws = ws.map (·.1) ∧ StepOk s B M P ops o σ v ws fp.rd := by
 unfold stepR at e
 split at e
 · rename_i g1 σ1 sc1 k1 hw
   split at e
   · rename_i r hr
     split at e
     rename_i v sc2 k2 hc
     simp only [Option.some.injEq, Prod.mk.injEq] at e
     obtain ⟨rfl, rfl, rfl, rfl, rfl⟩ := e
     obtain ⟨rfl, hw2⟩ := want_ok hw (fun p hp => hk p (by simp [hp]))
     refine ⟨v, r.ws, rfl, rfl, fun a w h m K H Hg h1 h2 h3 => .inl ⟨hw2 Hg, ?_⟩⟩
     have := chg_ok hc (fun p hp => hk p (by simp [hp]))
     rw [← this]
     exact aop_ok K hr (fun p hp => hk p (by simp [hp])) H h1 h2 h3
   · cases e
 · rename_i g1 σ1 sc1 k1 hw
   simp only [Option.some.injEq, Prod.mk.injEq] at e
   obtain ⟨rfl, rfl, rfl, rfl, rfl⟩ := e
   obtain ⟨rfl, hw2⟩ := want_ok hw hk
   exact ⟨.k undef, [], rfl, rfl, fun a w h m K H Hg h1 h2 h3 => .inr ⟨hw2 Hg, .same K (.k _ _)⟩⟩
 · cases e
theorem wpOp_of {Q : Exit → Act → World → Prop} {Q' : Value → World → Prop} {i : Nat} {o : Oper} {K : Act → World → Prop} {a : Act} {w : World} (ho : ops[i]? = some o)
  (h : (Region.wanted o (yielded ops a.tmps) = true ∧ Exec P o a w Q') ∨ (Region.wanted o (yielded ops a.tmps) = false ∧ Q' undef w)) (hK : ∀ u w', Q' u w' → K (a.put o.dst u) w') : wpOp P ops Q i K a w := by
 rcases h with ⟨hg, h⟩ | ⟨hg, h⟩
 · rcases h with ⟨u, w', h1, h2⟩ | ⟨w', h1, h2⟩ | ⟨f, args, h1, h2⟩
   · exact wpOp_valG ho hg h1 (hK u w' h2)
   · unfold wpOp
     rw [ho]
     simp only [hg, if_true]
     refine .inl ?_
     unfold Oper.wp
     rw [h1]
     exact hK undef w' h2
   · refine wpOp_callG ho hg h1 (h2.mono fun e w' h => ?_)
     obtain ⟨u, rfl, hq⟩ := h
     exact ⟨u, rfl, hK u w' hq⟩
 · exact wpOp_skipG ho hg (hK undef w h)
/-- A frame and a world are as a state says. -/
structure SOk (s : Bool) (B : Nat) (M : Nat → Prop) (w0 : World) (σ : St) (a : Act) (m : Nat → Option Value) (w : World) : Prop where
 K : Ok s B M σ.ho m w
 sz : a.tmps.size = σ.t.length
 df : a.defers = []
 tm : ∀ i x, σ.t[i]? = some x → Rep s w (Av M σ.ho m) m (a.tmps.getD i undef) x
 nm : ∀ b, m b ≠ none → b < σ.h.length
 bl : Below B w0 w
variable {w0 : World} {σ σ' : St} {a : Act} {m : Nat → Option Value} {w : World}
theorem SOk.slot (H : SOk s B M w0 σ a m w) (t : Nat) : Rep s w (Av M σ.ho m) m (a.eval (.tmp t)) (σ.t.getD t .un) := by
 rw [List.getD_eq_getElem?_getD]
 cases h : σ.t[t]? with
 | none => exact .un _ _
 | some x => exact H.tm t x h
theorem put_size {a : Act} {d : Option Nat} {u : Value} : (a.put d u).tmps.size = a.tmps.size ∧ (a.put d u).defers = a.defers := by
 cases d <;> simp [Act.put]
theorem put_get {a : Act} {d : Option Nat} {u : Value} {i : Nat} (hi : i < a.tmps.size) : (a.put d u).tmps.getD i undef = if d = some i then u else a.tmps.getD i undef := by
 cases d with
 | none => simp [Act.put]
 | some d =>
   simp only [Act.put, Array.getD_eq_getD_getElem?, Option.some.injEq]
   by_cases h : d = i
   · subst h; rw [if_pos rfl, Array.getElem?_setIfInBounds_self_of_lt hi]; rfl
   · rw [if_neg h, Array.getElem?_setIfInBounds_ne h]
theorem stput_len {d : Option Nat} {v : V} : (σ.put d v).length = σ.t.length := by cases d <;> simp [St.put]
theorem stput_get {d : Option Nat} {v : V} {i : Nat} : (σ.put d v).getD i .un = if d = some i ∧ i < σ.t.length then v else σ.t.getD i .un := by
 cases d with
 | none => simp [St.put]
 | some d =>
   simp only [St.put, List.getD_eq_getElem?_getD, Option.some.injEq]
   by_cases h : d = i
   · subst h
     rcases Nat.lt_or_ge d σ.t.length with h1 | h1
     · rw [if_pos ⟨rfl, h1⟩, List.getElem?_set_self h1]; rfl
     · rw [if_neg (by omega), List.getElem?_eq_none (by simpa using h1), List.getElem?_eq_none h1]
   · rw [if_neg (fun e => h e.1), List.getElem?_set_ne h]
/-- One step, in the text's order. -/
theorem SOk.step {o : Oper} {v : V} {ws : List (Nat × HO)} {u : Value} {w' : World} (H : SOk s B M w0 σ a m w) (h : Post s B M σ.ho m w ws v u w') : ∃ m', SOk s B M w0 ⟨σ.put o.dst v, apps σ.h ws⟩ (a.put o.dst u) m' w' := by
 obtain ⟨m', h1, h2, h3, h4, h5⟩ := h
 have hho : (⟨σ.put o.dst v, apps σ.h ws⟩ : St).ho = upds σ.ho ws := funext fun c => apps_ho ws c
 refine ⟨m', ⟨by rw [hho]; exact h1, by rw [put_size.1, H.sz]; exact stput_len.symm, by rw [put_size.2]; exact H.df, fun i x hx => ?_, fun b hb => ?_, H.bl.trans h4⟩⟩
 · rw [hho]
   have hx : (σ.put o.dst v)[i]? = some x := hx
   have hlt := (List.getElem?_eq_some_iff.1 hx).1
   rw [stput_len] at hlt
   have hg : (σ.put o.dst v).getD i .un = x := by rw [List.getD_eq_getElem?_getD, hx]; rfl
   rw [stput_get] at hg
   rw [put_get (by rw [H.sz]; exact hlt)]
   by_cases hd : o.dst = some i
   · rw [if_pos ⟨hd, hlt⟩] at hg
     rw [if_pos hd]
     subst hg
     exact h2
   · rw [if_neg (fun e => hd e.1)] at hg
     rw [if_neg hd]
     subst hg
     exact (H.slot i).mo h3
 · rcases h5 b hb with h6 | h6
   · exact Nat.lt_of_lt_of_le (H.nm b h6) (apps_len ws).1
   · exact (apps_len ws).2 b h6
theorem seq_ok {Q : Exit → Act → World → Prop} : ∀ (l : List Oper) (g : List (Nat × Bool)) (k : Nat) (σ σ' : St) (fps : List Fp) (sc sc' : List (Fa s P)) (ks : Ks) (a : Act) (m : Nat → Option Value) (w : World), ops.toList.drop k = l → regR s P ops l g σ sc = some (σ', fps, sc', ks) → (∀ p ∈ ks, p.1 = p.2) →
  SOk s B M w0 σ a m w → (∀ a m w, SOk s B M w0 σ' a m w → Q .normal a w) → wpList P ops Q l a w
 | [], g, k, σ, σ', fps, sc, sc', ks, a, m, w, _, e, _, H, hQ => by
  simp only [regR, Option.some.injEq, Prod.mk.injEq] at e
  obtain ⟨rfl, rfl, rfl, rfl⟩ := e
  exact hQ a m w H
 | o :: r, g, k, σ, σ', fps, sc, sc', ks, a, m, w, hl, e, hk, H, hQ => by
  unfold regR at e
  split at e
  · rename_i g1 σ1 fp sc1 k1 hs
    split at e
    · rename_i σ2 fps2 sc2 k2 hr
      simp only [Option.some.injEq, Prod.mk.injEq] at e
      obtain ⟨rfl, rfl, rfl, rfl⟩ := e
      have hkl : k < ops.toList.length := by
       rcases Nat.lt_or_ge k ops.toList.length with h | h
       · exact h
       · rw [List.drop_of_length_le h] at hl; cases hl
      have hkl' : k < ops.size := by simpa using hkl
      rw [List.drop_eq_getElem_cons hkl] at hl
      injection hl with hl1 hl2
      have ho : ops[k]? = some o := by rw [Array.getElem?_eq_getElem hkl', ← hl1]; simp
      obtain ⟨v, ws, rfl, hf, hst⟩ := stepR_ok (B := B) (M := M) hs fun p hp => hk p (by simp [hp])
      have h1 := hst a w σ.ho m H.K (fun t _ => H.slot t) (fun j c d _ _ => H.slot d) (fun _ _ => rfl) (fun _ _ _ => rfl) (fun b _ hb => ⟨by simp only [St.ho, List.getD_eq_getElem?_getD, List.getElem?_eq_none hb]; rfl, by
       cases hm : m b with
       | none => rfl
       | some x => have := H.nm b (by rw [hm]; intro e; cases e); omega⟩)
      have h2 : wpList P ops Q (o :: r) a w = wpOp P ops Q k (wpList P ops Q r) a w := by
       unfold wpOp
       rw [ho]
       rfl
      rw [h2]
      refine wpOp_of ho h1 fun u w' hp => ?_
      obtain ⟨m', H'⟩ := H.step (o := o) hp
      exact seq_ok r _ (k + 1) _ _ _ _ _ _ _ m' w' hl2 hr (fun p hp => hk p (by simp [hp])) H' hQ
    · cases e
  · cases e
end
end Go.Proofs.YtcfejkpadcccbaaGreat.E
