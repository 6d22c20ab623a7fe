/-
 CONTACT: the root of a piece (the inner function of Bodies), by the engine.
-/
import Derived.Test.YtbaggkbleehegaaGreatEvR
import Derived.Test.YtbaggkbleehegaaGreatEuF
namespace Go.Proofs.YtbaggkbleehegaaGreat.E.Ct
open Go.RowKit
set_option linter.unusedVariables false
set_option linter.unusedSimpArgs false
def cenV (p : Pi) (pl : Pl) : Vc := vput pl (Pg.center p.rimV)
def wt (s : Sc) (k : Nat) : Rat := (s.pi k).light + (s.pi k).heavy
def cw (s : Sc) (k : Nat) : Vc := vsca (cenV (s.pi k) (s.pl k)) (wt s k)
/-- What is added up for a body. -/
structure Ac where
 c : Vc
 light : Rat
 heavy : Rat
 str : Rat
 w : Rat
def ac0 (s : Sc) (j : Nat) : Ac := ⟨(0, 0), 0, 0, (s.pi j).str, 0⟩
def acS (s : Sc) (x : Ac) (k : Nat) : Ac := ⟨vadd x.c (cw s k), x.light + (s.pi k).light, x.heavy + (s.pi k).heavy, lsr x.str (s.pi k).str, x.w + wt s k⟩
def acc (s : Sc) (rt : Nat → Int) (j : Nat) : Nat → Ac
 | 0 => ac0 s j
 | k + 1 => if rt k = (j : Int) then acS s (acc s rt j k) k else acc s rt j k
def rts (rt : Nat → Int) (k : Nat) : List Nat := (List.range k).filter fun j => decide (rt j = (j : Int))
def pos (rt : Nat → Int) (j : Nat) : Nat := (rts rt j).length
def owF (rt : Nat → Int) (i : Nat) : Int := if rt i < 0 then -1 else (pos rt (rt i).toNat : Int)
def Ac.bo (x : Ac) : Bo := ⟨x.c, x.light, x.heavy, x.str⟩
def Ac.fin (x : Ac) : Bo := ⟨(x.c.1 / x.w, x.c.2 / x.w), x.light, x.heavy, x.str⟩
def rtF (p : Nat → Bool) (ρ : Nat → Nat) (k : Nat) : Int := if p k = true then (ρ k : Int) else -1
section
variable {s : Sc} {rt : Nat → Int} {j k i b : Nat} {r : Nat}
theorem rts_succ (rt : Nat → Int) (k : Nat) : rts rt (k + 1) = rts rt k ++ (if rt k = (k : Int) then [k] else []) := by
 unfold rts
 rw [List.range_succ, List.filter_append]
 congr 1
 by_cases h : rt k = (k : Int) <;> simp [h]
theorem mem_rts : j ∈ rts rt k ↔ j < k ∧ rt j = (j : Int) := by unfold rts; simp
theorem rts_len (rt : Nat → Int) (k : Nat) : (rts rt k).length ≤ k := by
 have := List.length_filter_le (fun j => decide (rt j = (j : Int))) (List.range k)
 rw [List.length_range] at this
 exact this
theorem rts_at (hr : rt r = (r : Int)) : ∀ k, r < k → (rts rt k)[pos rt r]? = some r
 | 0, h => by omega
 | k + 1, h => by
  rw [rts_succ]
  by_cases e : r = k
  · subst e
    rw [if_pos hr]
    unfold pos
    rw [List.getElem?_append_right (Nat.le_refl _), Nat.sub_self]
    rfl
  · have ih := rts_at hr k (by omega)
    rw [List.getElem?_append_left (List.getElem?_eq_some_iff.1 ih).1]
    exact ih
theorem rts_inj {i i' : Nat} (h : (rts rt k)[i]? = some r) (h' : (rts rt k)[i']? = some r) : i = i' := by
 have hp : (rts rt k).Pairwise (· < ·) := List.Pairwise.filter _ List.pairwise_lt_range
 rw [List.pairwise_iff_getElem] at hp
 obtain ⟨a1, a2⟩ := List.getElem?_eq_some_iff.1 h
 obtain ⟨b1, b2⟩ := List.getElem?_eq_some_iff.1 h'
 rcases Nat.lt_trichotomy i i' with g | g | g
 · have := hp i i' a1 b1 g; omega
 · exact g
 · have := hp i' i b1 a1 g; omega
/-- One of the roots' words turns. -/
theorem map_set {α : Type} {f g : Nat → α} (hr : rt r = (r : Int)) (h : r < k) (hg : ∀ j, j ≠ r → g j = f j) : ((rts rt k).map f).set (pos rt r) (g r) = (rts rt k).map g := by
 apply List.ext_getElem?
 intro i
 have ha := rts_at hr k h
 have hl := (List.getElem?_eq_some_iff.1 ha).1
 rw [List.getElem?_set, List.getElem?_map, List.getElem?_map, List.length_map]
 by_cases e : pos rt r = i
 · subst e
   rw [if_pos rfl, if_pos hl, ha]
   rfl
 · rw [if_neg e]
   cases hx : (rts rt k)[i]? with
   | none => rfl
   | some j =>
    have : j ≠ r := fun e2 => e (by subst e2; exact rts_inj ha hx)
    simp only [Option.map_some, hg j this]
theorem acc_ne (h : rt k ≠ (j : Int)) : acc s rt j (k + 1) = acc s rt j k := if_neg h
theorem acc_eq (h : rt k = (j : Int)) : acc s rt j (k + 1) = acS s (acc s rt j k) k := if_pos h
/-- Nothing is with a root before it. -/
theorem acc_0 (hle : ∀ i, i < k → rt i ≤ (i : Int)) : ∀ m, m ≤ k → acc s rt k m = ac0 s k
 | 0, _ => rfl
 | m + 1, h => by
  rw [acc_ne (by have := hle m (by omega); omega)]
  exact acc_0 hle m (by omega)
theorem lsr_self (a : Rat) : lsr a a = a := by unfold lsr; split <;> rfl
theorem acc_new (hle : ∀ i, i < k → rt i ≤ (i : Int)) (h : rt k = (k : Int)) : acc s rt k (k + 1) = ⟨cw s k, (s.pi k).light, (s.pi k).heavy, (s.pi k).str, wt s k⟩ := by
 rw [acc_eq h, acc_0 hle k (Nat.le_refl _)]
 unfold acS ac0 vadd
 simp only [Rat.zero_add, lsr_self]
/-- A step with a new root. -/
theorem map_new {α : Type} {f g : Nat → α} (h : rt k = (k : Int)) (hg : ∀ j, j < k → g j = f j) : (rts rt k).map f ++ [g k] = (rts rt (k + 1)).map g := by
 rw [rts_succ, if_pos h, List.map_append]
 congr 1
 exact List.map_congr_left fun j hj => (hg j (mem_rts.1 hj).1).symm
theorem map_old {α : Type} {f g : Nat → α} (h : rt k ≠ (k : Int)) (hg : ∀ j, j < k → g j = f j) : (rts rt (k + 1)).map g = (rts rt k).map f := by
 rw [rts_succ, if_neg h, List.append_nil]
 exact List.map_congr_left fun j hj => hg j (mem_rts.1 hj).1
structure PiB (s : Sc) (M k : Nat) : Prop where
 c : Bv M (cw s k)
 light : Bq M (s.pi k).light
 heavy : Bq M (s.pi k).heavy
 str : Bq M (s.pi k).str
 w : Bq M (wt s k)
structure AcB (x : Ac) (K M : Nat) : Prop where
 c : Bv K x.c
 light : Bq K x.light
 heavy : Bq K x.heavy
 str : Bq M x.str
 w : Bq K x.w
theorem lsr_bits {a b : Rat} (h : Bq k a) (g : Bq k b) : Bq k (lsr a b) := by unfold lsr; split <;> assumption
theorem acc_bits {M : Nat} (hj : Bq M (s.pi j).str) : ∀ k, (∀ i, i < k → PiB s M i) → AcB (acc s rt j k) ((M + 1) * k + 1) M
 | 0, _ => ⟨⟨Bq.zero (by omega), Bq.zero (by omega)⟩, Bq.zero (by omega), Bq.zero (by omega), hj, Bq.zero (by omega)⟩
 | k + 1, h => by
  have ih := acc_bits hj k fun i hi => h i (by omega)
  have hk := h k (by omega)
  have e : (M + 1) * (k + 1) + 1 = ((M + 1) * k + 1) + M + 1 := by rw [Nat.mul_succ]; omega
  rw [e]
  unfold acc
  split
  · exact ⟨ih.c.add hk.c, ih.light.add hk.light, ih.heavy.add hk.heavy, lsr_bits ih.str hk.str, ih.w.add hk.w⟩
  · exact ⟨ih.c.mono (by omega), ih.light.mono (by omega), ih.heavy.mono (by omega), ih.str, ih.w.mono (by omega)⟩
theorem cen_bits {k : Nat} {L : List Vc} (hb : ∀ a ∈ L, Bv k a) (hn : L.length ≤ 100) : Bv ((6 * k + 3) * 100 + 1 + (2 + ((4 * k + 2) * 100 + 1))) (Pg.center L) := by
 have h1 := pre_bits (n := L.length) (fun a b ha hb => (fx_bits (k := k) ha hb).1) rfl hb (List.finRange _) (by rw [List.length_finRange]; exact hn)
 have h2 := pre_bits (n := L.length) (fun a b ha hb => (fx_bits (k := k) ha hb).2) rfl hb (List.finRange _) (by rw [List.length_finRange]; exact hn)
 have h3 := pre_bits (n := L.length) (fun a b ha hb => crs_bits (k := k) ha hb) rfl hb (List.finRange _) (by rw [List.length_finRange]; exact hn)
 rw [Pg.at_all L _ rfl] at h1 h2 h3
 exact Bv.sca (v := (Pg.sum Pg.fx (Pg.sides L), Pg.sum Pg.fy (Pg.sides L))) ⟨h1, h2⟩ (third_bits.div h3 (by omega))
/-- The bits of pieces. -/
def piM (b : Nat) : Nat := 3000 * b + 5000
theorem Pi.Good.cen {p : Pi} {pl : Pl} (h : p.Good pl b) : Bv (1010 * b + 1000) (Pg.center p.rimV) := (cen_bits h.r (by have := h.n; unfold Pi.rimV; rw [List.length_map]; omega)).mono (by omega)
theorem Pi.Good.cenV {p : Pi} {pl : Pl} (h : p.Good pl b) : Bv (2024 * b + 2002) (cenV p pl) := ((h.t.rot h.cen).add h.a).mono (by omega)
theorem Sc.Ok.pib (h : s.Ok b) (hk : k < s.L.length) : PiB s (piM b) k := by
 have g := h.g k hk
 have hw : Bq (b + b + 1) (wt s k) := g.ok.light.add g.ok.heavy
 unfold piM
 exact ⟨(g.cenV.sca hw).mono (by omega), g.ok.light.mono (by omega), g.ok.heavy.mono (by omega), g.ok.str.mono (by omega), hw.mono (by omega)⟩
end
section
variable {p : Pi} {pl : Pl} {b : Nat}
theorem e_pcen (h : p.Good pl b) : Pure PP 42 [.ag p.v, .ag (dPl pl)] (.ag (dV (cenV p pl))) := by
 have hk := h.k
 have hn : p.rimV.length ≤ 100 := by have := h.n; unfold Pi.rimV; rw [List.length_map]; omega
 exact tr [cl (e_rim h.ok), cl (e_center h.r hn h.k), cl (e_put h.t h.a h.cen (by omega))] (by kernel_rfl)
end
end Go.Proofs.YtbaggkbleehegaaGreat.E.Ct
namespace Go.Proofs.YtbaggkbleehegaaGreat.E
open Go.RowKit
set_option linter.unusedVariables false
set_option linter.unusedSimpArgs false
theorem renV_id : ∀ (n : Nat) (x : V), renV (fun j => j) n x = x
 | 0, x => rfl
 | n + 1, x => by
  have hm : ∀ l : List V, l.map (renV (fun j => j) n) = l := fun l => by
   rw [show renV (fun j => j) n = id from funext fun y => renV_id n y, List.map_id]
  cases x <;> simp only [renV, hm]
theorem renH_id (x : HO) : renH (fun j => j) x = x := by
 cases x <;> simp only [renH]
 rename_i l
 rw [show renV (fun j => j) 5 = id from funext fun y => renV_id 5 y, List.map_id]
def mkC1 (ts : Array TypeId) (xs : List Operand) : Op := .call ⟨.value (xs.getD 0 (.tmp 0)), #[xs.getD 1 (.tmp 0)], ts⟩
def lrd : List HO → Nat → List (Nat × HO)
 | [], _ => []
 | x :: r, i => (i, x) :: lrd r (i + 1)
theorem lrd_mem : ∀ {l : List HO} {i j : Nat}, j < l.length → (i + j, l.getD j .dead) ∈ lrd l i
 | [], _, _, h => by simp at h
 | x :: r, i, 0, _ => List.mem_cons_self ..
 | x :: r, i, j + 1, h => by
  refine List.mem_cons_of_mem _ ?_
  have := lrd_mem (l := r) (i := i + 1) (j := j) (by simpa using h)
  rw [show i + 1 + j = i + (j + 1) by omega] at this
  exact this
def lendC (hs hs1 : List HO) (ds : List V) (d : V) : Bool := (hs.all HO.own && hs.all (okH fun b => Nat.blt b hs.length)) && (ds.all (okV (fun b => Nat.blt b hs.length) 5) && (hs1.all (okH fun b => Nat.blt b hs1.length) && okV (fun b => Nat.blt b hs1.length) 5 d))
/-- A call to which objects are lent; those that it turns are told. -/
theorem x_lend {P : Program} {f : FuncId} {ts : Array TypeId} {hs hs1 : List HO} {a1 : V} {caps : List V} {d : V} {ws : List (Nat × HO)} (hp : PureT P f hs (a1 :: caps) (.io hs.length hs1 d)) (hl : hs1.length = hs.length) (hc : lendC hs hs1 (a1 :: caps) d = true)
 (hw : ∀ h : Nat → HO, (∀ j, j < hs.length → h j = hs.getD j .dead) → upds h ws = upds h (lws (fun j => j) hs1)) : Ext P (mkC1 ts) [.cl f caps, a1] (lrd hs 0) ws d := by
 intro B M h m w a o xs ho K hxl hr hrd _
 obtain ⟨x0, x1, rfl⟩ := two_of hxl
 have r0 := hr 0 x0 _ rfl rfl
 have r1 := hr 1 x1 _ rfl rfl
 simp only [mkC1, List.getD_cons_zero, List.getD_cons_succ] at ho
 obtain ⟨cs, hce, hcs, hcr⟩ : ∃ cs : Array Value, a.eval x0 = .func (.func f) #[] cs ∧ cs.size = caps.length ∧ ∀ j x, caps[j]? = some x → Rep w (Av M h m) m (cs.getD j undef) x := by
  generalize a.eval x0 = u at r0
  cases r0 with
  | cl _ _ cs _ h1 h2 => exact ⟨cs, rfl, h1, h2⟩
 unfold lendC at hc
 simp only [Bool.and_eq_true, List.all_eq_true] at hc
 obtain ⟨⟨c6, c7⟩, c8, c9, c10⟩ := hc
 have hh : ∀ j, j < hs.length → h j = hs.getD j .dead := fun j hj => by
  have := hrd _ (lrd_mem (i := 0) hj)
  simpa using this
 have hget : ∀ j, j < hs.length → hs.getD j .dead ∈ hs := fun j hj => by
  rw [List.getD_eq_getElem?_getD, List.getElem?_eq_getElem hj]
  exact List.getElem_mem hj
 have L : Lend B M h m w (fun j => j) hs.length hs := ⟨K, rfl, fun j hj => by rw [renH_id]; exact hh j hj, fun j hj => c6 _ (hget j hj), fun j hj => c7 _ (hget j hj), fun i j _ _ e => e⟩
 have hmo : Mo w (Av M h m) no w (Av (Av M (rest h (fun j => j) hs.length) m) (fun b => hs.getD b .dead) (mLent m (fun j => j) hs.length)) no := ⟨Nat.le_refl _, fun _ _ _ => rfl, fun g e => .inl (L.av e), fun _ _ e => e⟩
 have hlent : ∀ b, Nat.blt b hs.length = true → mLent m (fun j => j) hs.length b = m b := fun b hb => if_pos (by simpa using hb)
 have down : ∀ y u, okV (fun b => Nat.blt b hs.length) 5 y = true → Rep w (Av M h m) m u y → Rep w (Av (Av M (rest h (fun j => j) hs.length) m) (fun b => hs.getD b .dead) (mLent m (fun j => j) hs.length)) (mLent m (fun j => j) hs.length) u y := fun y u hy hu => by
  refine ren_down (r := fun j => j) (p := fun b => Nat.blt b hs.length) hlent hmo 5 y u hy ?_
  rw [renV_id]
  exact hu
 have hargs : Reps w (Av (Av M (rest h (fun j => j) hs.length) m) (fun b => hs.getD b .dead) (mLent m (fun j => j) hs.length)) (mLent m (fun j => j) hs.length) (#[a.eval x1] ++ cs) (a1 :: caps) := by
  refine ⟨by simp [hcs]; omega, fun j y hy => ?_, K.gl.mo hmo⟩
  have hy8 := c8 y (List.mem_of_getElem? hy)
  refine down y _ hy8 ?_
  cases j with
  | zero =>
   simp only [List.getElem?_cons_zero, Option.some.injEq] at hy
   subst hy
   rw [Array.getD_eq_getD_getElem?, Array.getElem?_append_left (by simp)]
   exact r1
  | succ j =>
   simp only [List.getElem?_cons_succ] at hy
   have := hcr j y hy
   rw [Array.getD_eq_getD_getElem?, Array.getElem?_append_right (by simp)]
   simpa [Array.getD_eq_getD_getElem?] using this
 have hlive : ∀ j, j < hs.length → m j ≠ none := fun j hj => by
  have hlv := L.live hj
  cases hx : h j with
  | bx T l => obtain ⟨g, cs, q, _⟩ := K.bx _ T l hx; rw [q]; intro e; cases e
  | rw T z l => obtain ⟨v, xs, q, _⟩ := K.rw _ T z l hx; rw [q]; intro e; cases e
  | dead => simp only [hx] at hlv; cases hlv
  | fz x => simp only [hx] at hlv; cases hlv
 have hcall := hp.2 w (NLent w m (fun j => j) hs.length) (Av M (rest h (fun j => j) hs.length) m) (mLent m (fun j => j) hs.length) _ L.give (fun b hb => by
  rcases Nat.lt_or_ge b hs.length with h1 | h1
  · exact h1
  · exact absurd (if_neg (by omega)) hb) (fun b hb => by
  have hb : b < hs.length := hb
  show (if _ then _ else _) ≠ _
  rw [if_pos hb]
  exact hlive b hb) hargs
 refine .inr (.inr ⟨f, #[a.eval x1] ++ cs, ?_, hcall.mono fun e w' he => ?_⟩)
 · have := hp.1 (#[a.eval x1] ++ cs) w
   simp [execOp, ho, resolve, hce, Deferred.ofValue, invoke] at this ⊢
   exact this
 · obtain ⟨v, rfl, ⟨h', m', K', q1, q2, q3⟩, hb⟩ := he
   obtain ⟨m2, t1, t2, t3, t4, t5⟩ := L.take (n := hs.length) (hs1 := hs1) (by omega) (fun j hj => by omega) (fun j hj => hj) (fun j hj => by
     rw [List.getD_eq_getElem?_getD, List.getElem?_eq_getElem hj]
     exact c9 _ (List.getElem_mem hj)) (fun j hj hj2 => by omega) K' hb q1 q2
   rw [← hw h hh] at t1 t2 t4
   have t6 := t4 v d c10 q3
   rw [renV_id] at t6
   refine ⟨v, rfl, m2, t1, t6, t2, t3, fun b hbn => (t5 b hbn).elim .inl fun hm => .inl ?_⟩
   unfold lws at hm
   rw [List.map_map, List.mem_map] at hm
   obtain ⟨j, hj, rfl⟩ := hm
   exact hlive j (by have := List.mem_range.1 hj; omega)
section
variable {P : Program}
def mkIA (T : TypeId) (xs : List Operand) : Op := .indexAddr T (xs.getD 0 (.tmp 0)) (xs.getD 1 (.tmp 0))
/-- An element's address in a row of which the length is told. -/
theorem x_ios {T e : TypeId} (hT : P.underlying T = some (.slice e)) {z : Nat} (hs : szT P e = some z) {b n k : Nat} (hk : k < n) : Ext P (mkIA T) [.os b z 0 n, .k (.int .i64 (k : Int))] [] [] (.rp b z k 0) := by
 intro B M h m w a o xs ho K hl hr _ _
 obtain ⟨x, y, rfl⟩ := two_of hl
 have hx := hr 0 x _ rfl rfl
 have hy := Rep.k_inv (hr 1 y _ rfl rfl)
 generalize hu : a.eval x = u at hx
 cases hx with
 | os _ _ _ _ _ g n' c hm h1 h2 =>
  simp only [mkIA, List.getD_cons_zero, List.getD_cons_succ] at ho
  have hu2 : a.eval x = .slice (some ⟨g, 0, none⟩) n c := by
   rw [hu]
   simp only [Nat.zero_mul, ite_self, Nat.sub_zero]
  refine Exec.val (u := .pointer (some ⟨g, k * z + 0, none⟩)) (w' := w) ?_ (.same K (.rp _ b z k 0 g _ _ hm))
  simp [execOp, ho, Instr.indexAt, hu2, hy, asIntOf, run_under hT, run_size hs, hk, Addr.add_lit]
def mkNC (xs : List Operand) : Op := .nilCheck (xs.getD 0 (.tmp 0))
theorem x_nilc {b z i j : Nat} : Ext P mkNC [.rp b z i j] [] [] (.rp b z i j) := by
 intro B M h m w a o xs ho K hl hr _ _
 obtain ⟨x, rfl⟩ : ∃ x, xs = [x] := by
  match xs, hl with
  | [x], _ => exact ⟨x, rfl⟩
 have hx := hr 0 x _ rfl rfl
 generalize hu : a.eval x = u at hx
 simp only [mkNC, List.getD_cons_zero] at ho
 refine Exec.val (u := u) (w' := w) ?_ (.same K hx)
 cases hx with
 | rp _ _ _ _ _ g n' c hm => simp [execOp, ho, hu]
end
/-- A row in a box is told by its length. -/
theorem Gd.os {P : Program} {f : FuncId} {d : RD} {td : List Item} {σ : St} {b c T U z : Nat} {l : List (List V)} (hb : σ.ho b = .bx T [.ow c]) (hc : σ.ho c = .rw U z l) (h0 : 0 < l.length) (g : Gd P f d td ⟨σ.t, σ.h.set b (.bx T [.os c z 0 l.length])⟩) : Gd P f d td σ := by
 intro w0 B M m0 fb a m w cs hf hk hM H
 have hlt := ho_lt (σ := σ) (b := b) (by rw [hb]; intro e; cases e)
 obtain ⟨v, xs, h1, h2, h3, h4, h5⟩ := H.K.rw c U z l hc
 obtain ⟨gg, cap, hv, _⟩ := own_pos h3.kit h0
 obtain ⟨k1, k2⟩ := H.K.tell (l' := [.os c z 0 l.length]) hb rfl (fun u j x hx hy => by
  match j with
  | 0 =>
   simp only [List.getElem?_cons_zero, Option.some.injEq] at hx
   subst hx
   have hu := hy (.ow c) rfl
   cases hu with
   | ow _ _ ad n cc hm =>
    rw [h1] at hm
    injection hm with hm
    rw [hv] at hm
    injection hm with e1 e2 e3
    subst e1; subst e2; subst e3
    have := Rep.os (w := w) (A := Av M σ.ho m) m c z 0 l.length gg l.length cap (by rw [h1, hv]) (Nat.zero_le _) (Nat.le_refl _)
    simpa only [Nat.zero_mul, ite_self, Nat.sub_zero] using this
  | j + 1 => simp at hx)
 have he : (⟨σ.t, σ.h.set b (.bx T [.os c z 0 l.length])⟩ : St).ho = upd σ.ho b (.bx T [.os c z 0 l.length]) := set_ho hlt
 exact g w0 B M m0 fb a m w cs hf hk hM ⟨by rw [he]; exact k1, H.sz, by rw [he]; exact H.df.mo k2, fun i x hx => by rw [he]; exact (H.tm i x hx).mo k2, fun c hc => by simpa using H.nm c hc, H.bl⟩
/-- As refH, for boxes that hold functions, too. -/
def refHC (p : Nat → Bool) : HO → Bool
 | .bx _ l => l.all (refs p)
 | _ => true
def trimC (n : Nat) (σ : St) : St := match σ.t.all (refs fun b => Nat.blt b n) && ((σ.h.take n).all (refHC fun b => Nat.blt b n) && (σ.h.drop n).all isDead) with
 | true => ⟨σ.t, σ.h.take n⟩
 | false => σ
section
variable {B : Nat → Prop} {M : Nat → Prop} {w0 w : World} {σ : St} {a : Act} {m m' : Nat → Option Value} {A A' : Nat → Prop}
theorem trimC_ok (H : SOk B M w0 σ a m w) (n : Nat) : ∃ m', (∀ b, b < n → m' b = m b) ∧ Mo w (Av M σ.ho m) no w (Av M (trimC n σ).ho m') no ∧ SOk B M w0 (trimC n σ) a m' w := by
 unfold trimC
 split
 · rename_i hc
   simp only [Bool.and_eq_true, List.all_eq_true] at hc
   obtain ⟨c1, c2, c3⟩ := hc
   have hho : ∀ b, (⟨σ.t, σ.h.take n⟩ : St).ho b = σ.ho b := fun b => by
    show (σ.h.take n).getD b .dead = σ.h.getD b .dead
    simp only [List.getD_eq_getElem?_getD, List.getElem?_take]
    split
    · rfl
    · rename_i hb
      cases hx : σ.h[b]? with
      | none => rfl
      | some x =>
        have hd : (σ.h.drop n)[b - n]? = some x := by rw [List.getElem?_drop, show n + (b - n) = b by omega]; exact hx
        have := c3 x (List.mem_of_getElem? hd)
        cases x <;> simp [isDead] at this
        rfl
   have hlive : ∀ b, σ.ho b ≠ .dead → b < n := fun b hb => by
    rw [← hho b] at hb
    have := ho_lt (σ := ⟨σ.t, σ.h.take n⟩) hb
    simp at this
    omega
   let m' : Nat → Option Value := fun b => if b < n then m b else none
   have hm : ∀ b, b < n → m' b = m b := fun b hb => if_pos hb
   have hav : ∀ g, Av M (⟨σ.t, σ.h.take n⟩ : St).ho m' g → Av M σ.ho m g := by
    rintro g (e | ⟨b, v, h1, h2, h3⟩)
    · exact .inl e
    · rw [hho b] at h1
      rw [hm b (hlive b (own_ne h1))] at h2
      exact .inr ⟨b, v, h1, h2, h3⟩
   have g : Mo w (Av M σ.ho m) no w (Av M (⟨σ.t, σ.h.take n⟩ : St).ho m') no := ⟨Nat.le_refl _, fun _ _ _ => rfl, fun g e => .inl (hav g e), fun _ _ e => e⟩
   refine ⟨m', hm, g, ⟨⟨fun b T l e => ?_, fun b T z l e => ?_, fun b x e => ?_, fun c c' v v' g' h1 h2 h3 h4 h5 h6 => ?_, H.K.mb, H.K.bs, H.K.gl.mo g⟩, H.sz, H.df.mo g, fun i x hx => ?_, fun b hb => ?_, H.bl⟩⟩
   · rw [hho b] at e
     have hbn := hlive b (by rw [e]; intro e; cases e)
     obtain ⟨g', cs, h1, h2, h3, h4, h5⟩ := H.K.bx b T l e
     refine ⟨g', cs, (hm b hbn).trans h1, h2, h3, h4, fun j x hx => refs_ok (p := fun b => Nat.blt b n) (fun b hb => hm b (by simpa using hb)) g (h5 j x hx) ?_⟩
     have k0 : (σ.h.take n)[b]? = some (.bx T l) := by
      rw [List.getElem?_take, if_pos hbn]
      have hbl := ho_lt (σ := σ) (b := b) (by rw [e]; intro e; cases e)
      have : σ.h.getD b .dead = .bx T l := e
      rw [List.getD_eq_getElem?_getD, List.getElem?_eq_getElem hbl] at this
      rw [List.getElem?_eq_getElem hbl]
      exact congrArg some this
     have := c2 _ (List.mem_of_getElem? k0)
     simp only [refHC, List.all_eq_true] at this
     exact this x (List.mem_of_getElem? hx)
   · rw [hho b] at e
     have hbn := hlive b (by rw [e]; intro e; cases e)
     obtain ⟨v, xs, h1, h2, h3, h0, h4⟩ := H.K.rw b T z l e
     exact ⟨v, xs, (hm b hbn).trans h1, h2, h3, h0, fun j x hx => (h4 j x hx).mo g⟩
   · rw [hho b] at e
     have hbn := hlive b (by rw [e]; intro e; cases e)
     obtain ⟨v, h1, h3⟩ := H.K.fz b x e
     exact ⟨v, (hm b hbn).trans h1, h3.mo g⟩
   · rw [hho] at h1 h2
     rw [hm _ (hlive _ (own_ne h1))] at h3
     rw [hm _ (hlive _ (own_ne h2))] at h4
     exact H.K.inj c c' v v' g' h1 h2 h3 h4 h5 h6
   · exact refs_ok (p := fun b => Nat.blt b n) (fun b hb => hm b (by simpa using hb)) g (H.tm i x hx) (c1 x (List.mem_of_getElem? hx))
   · have hbn : b < n := by
      rcases Nat.lt_or_ge b n with h | h
      · exact h
      · exact absurd (if_neg (by omega)) hb
     have hmb : m b ≠ none := by rw [← hm b hbn]; exact hb
     have := H.nm b hmb
     simp; omega
 · exact ⟨m, fun _ _ => rfl, ⟨Nat.le_refl _, fun _ _ _ => rfl, fun g e => .inl e, fun _ _ e => e⟩, H⟩
end
noncomputable def metC0 {P : Program} (gs : List Gh) (ts bs : List Nat) (n : Nat) : Out P → Bool × List (List V) × List Item × St
 | .at_ td σ [] ks => (gs.all (ghK 0), ks.map (·.1), td, trimC n (keep ts bs (gs.foldl gh σ)))
 | _ => (false, [], [], ⟨[], []⟩)
theorem Gd.to0 {P : Program} {f : FuncId} {d : RD} (hd : d.n = 0) (hm : P.follows .mixedOrders = true) {td td' : List Item} {σ σ' : St} (gs : List Gh) (ts bs : List Nat) (n : Nat) (sc : List (Fa P)) (h : Gd P f d td' σ') (e : metC0 gs ts bs n (run P 5000 td σ sc) = toldL td' σ' (run P 5000 td σ sc)) : Gd P f d td σ := by
 cases hr : run P 5000 td σ sc with
 | bad => rw [hr] at e; cases e
 | at_ td2 σ2 sc2 ks =>
   rw [hr] at e
   cases sc2 with
   | nil =>
     simp only [metC0, toldL, Prod.mk.injEq] at e
     obtain ⟨e0, e1, rfl, rfl⟩ := e
     refine run_ok hm _ _ _ _ _ _ _ _ hr (ks_ok e1) fun w0 B M m0 b a m w cs h1 h2 h3 H => ?_
     rw [← hd] at e0
     obtain ⟨m', H', g1⟩ := ghs_ok gs e0 H
     obtain ⟨m2, g2, _, H2⟩ := trimC_ok (H'.keep ts bs) n
     exact h w0 B M m0 b a m2 w cs h1 h2 (fun j hj => by omega) H2
   | cons => cases e
theorem Gd.os3 {P : Program} {f : FuncId} {d : RD} {td : List Item} {T : List V} {U Tb z : Nat} {l : List (List V)} {x : HO} (h0 : 0 < l.length) (g : Gd P f d td ⟨T, [.rw U z l, .bx Tb [.os 0 z 0 l.length], x]⟩) : Gd P f d td ⟨T, [.rw U z l, .bx Tb [.ow 0], x]⟩ := Gd.os (b := 1) (c := 0) rfl rfl h0 g
end Go.Proofs.YtbaggkbleehegaaGreat.E
namespace Go.Proofs.YtbaggkbleehegaaGreat.E.Ct
open Go.RowKit
set_option linter.unusedVariables false
set_option linter.unusedSimpArgs false
def nR (R : List Nat) : List (List V) := R.map fun (x : Nat) => [ni (x : Int)]
def fH (n : Nat) (R : List Nat) : List HO := [.rw 3 1 (nR R), .bx 22 [.os 0 1 0 n], .bx 126 [.cl 79 [.lp 1 0, .lp 2 0]]]
section
variable {R : List Nat} {n k p : Nat}
theorem nR_len (R : List Nat) : (nR R).length = R.length := List.length_map ..
theorem nR_at (h : k < R.length) : (nR R)[k]? = some [ni ((R.getD k k : Nat) : Int)] := by
 unfold nR
 rw [List.getElem?_map, List.getD_eq_getElem?_getD, List.getElem?_eq_getElem h]
 rfl
theorem nR_set (R : List Nat) (k r : Nat) : (nR R).set k [ni (r : Int)] = nR (R.set k r) := by unfold nR; rw [List.map_set]
theorem lws_1 {x y z : HO} {h : Nat → HO} (h1 : h 1 = y) (h2 : h 2 = z) : upds h [(0, x)] = upds h (lws (fun j => j) [x, y, z]) := funext fun b => by
 show upd h 0 x b = upd (upd (upd h 2 (renH (fun j => j) z)) 1 (renH (fun j => j) y)) 0 (renH (fun j => j) x) b
 rw [renH_id, renH_id, renH_id]
 unfold upd
 by_cases e0 : b = 0
 · rw [if_pos e0, if_pos e0]
 · rw [if_neg e0, if_neg e0]
   by_cases e1 : b = 1
   · rw [if_pos e1, e1, h1]
   · rw [if_neg e1]
     by_cases e2 : b = 2
     · rw [if_pos e2, e2, h2]
     · rw [if_neg e2]
/-- The call of it, as it is met. -/
theorem x_find {R' : List Nat} {r : Nat} (h : PureT PP 79 (fH n R) [ni p, .lp 1 0, .lp 2 0] (.io 3 (fH n R') (ni r))) : Ext PP (mkC1 #[3]) [.cl 79 [.lp 1 0, .lp 2 0], ni p] (lrd (fH n R) 0) [(0, .rw 3 1 (nR R'))] (ni r) :=
 x_lend (hs := fH n R) (hs1 := fH n R') h rfl (by kernel_rfl) fun g hg => lws_1 (hg 1 (show 1 < 3 by decide)) (hg 2 (show 2 < 3 by decide))
theorem u_int : PP.underlying 22 = some (.slice 3) := by kernel_rfl
theorem s_int : szT PP 3 = some 1 := by kernel_rfl
def xio (t : Nat) (h : k < n) : F_ := .ext (some t) (mkIA 22) [.os 0 1 0 n, ni k] [] [] (.rp 0 1 k 0) (x_ios u_int s_int h)
theorem e_find (hn : n < 1000000) (hl : R.length = n) (hD : Dn R) : ∀ k, k < n → PureT PP 79 (fH n R) [ni k, .lp 1 0, .lp 2 0] (.io 3 (fH n (fnd R k).1) (ni (fnd R k).2)) := by
 intro k
 induction k using Nat.strongRecOn with
 | _ k ih =>
  intro hk
  have ha := nR_at (R := R) (k := k) (by omega)
  have hle := hD.le k
  by_cases h : R.getD k k < k
  · have hi := ih _ h (by omega)
    have s := fnd_sp hD (R.getD k k)
    have x := x_find hi
    rw [fnd_lt h]
    have hb := nR_at (R := (fnd R (R.getD k k)).1) (k := k) (by rw [s.len]; omega)
    have hst := nR_set (fnd R (R.getD k k)).1 k (fnd R (R.getD k k)).2
    have hc := nR_at (R := (fnd R (R.getD k k)).1.set k (fnd R (R.getD k k)).2) (k := k) (by rw [List.length_set, s.len]; omega)
    rw [getD_set, if_pos ⟨rfl, by rw [s.len]; omega⟩] at hc
    generalize hq : R.getD k k = q at *
    generalize fnd R q = F at *
    obtain ⟨F1, r⟩ := F
    exact trT [xio 7 hk, .sel _ _ _ ha, ye (t := (q : Int) != (k : Int)) (by simp; omega), xio 16 hk, .sel _ _ _ ha, .ext (some 18) _ _ _ _ _ x, xio 19 hk, .upd _ _ _ _ _ hb hst, xio 22 hk, .sel _ _ _ hc] (by kernel_rfl)
  · have e : R.getD k k = k := by omega
    rw [fnd_ge h]
    rw [e] at ha
    exact trT [xio 7 hk, .sel _ _ _ ha, na (t := (k : Int) != (k : Int)) (by simp), xio 22 hk, .sel _ _ _ ha] (by kernel_rfl)
end
end Go.Proofs.YtbaggkbleehegaaGreat.E.Ct
