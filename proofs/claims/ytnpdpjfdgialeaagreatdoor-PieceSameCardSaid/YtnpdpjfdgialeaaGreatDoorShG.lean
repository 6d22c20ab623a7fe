/-
 SHA: the schedule.
-/
import Derived.Test.YtnpdpjfdgialeaaGreatDoorShC
import Derived.Test.YtnpdpjfdgialeaaGreatDoorEvE
namespace Go.Proofs.YtnpdpjfdgialeaaGreatDoor.E
open Go.RowKit Ct
set_option linter.unusedVariables false
set_option linter.unusedSimpArgs false
section
variable {P : Program} {w : World}
def mkSb0 (T : TypeId) (xs : List Operand) : Op := .slice T (xs.getD 0 (.tmp 0)) none none none
def mkSb1 (T : TypeId) (xs : List Operand) : Op := .slice T (xs.getD 0 (.tmp 0)) (some (xs.getD 1 (.tmp 0))) none none
/-- A slice of an array in a box. -/
theorem x_bs0 {T n e b o : Nat} (hd : P.underlying T = some (.array n e)) (hq : szT P e = some 1) (hn : 0 < n) : Ext P (mkSb0 T) [.lp b o] [] [] (.bs b o n n) := by
 intro B M h m w a op xs ho K hl hr hrd _
 obtain ⟨x, rfl⟩ := ops1 hl
 have hx := hr 0 x _ rfl rfl
 simp only [mkSb0, List.getD_cons_zero] at ho
 generalize hu : a.eval x = u at hx
 cases hx with
 | lp _ _ _ g hg =>
  refine Exec.val (u := .slice (some ⟨g, o, none⟩) n n) (w' := w) ?_ (.same K (.bs _ _ _ _ _ _ hg))
  simp [execOp, ho, Instr.sliceAt, Instr.sliceBounds, hu, Instr.sureAddr, run_under hd, run_size hq, show n ≠ 0 by omega, Addr.add_lit]
theorem x_bs1 {T n e b o i : Nat} (hd : P.underlying T = some (.array n e)) (hq : szT P e = some 1) (hi : i < n) : Ext P (mkSb1 T) [.lp b o, ni (i : Int)] [] [] (.bs b (o + i) (n - i) (n - i)) := by
 intro B M h m w a op xs ho K hl hr hrd _
 obtain ⟨x, y, rfl⟩ := ops2 hl
 have hx := hr 0 x _ rfl rfl
 have hy := Rep.k_inv (hr 1 y _ rfl rfl)
 simp only [mkSb1, List.getD_cons_zero, List.getD_cons_succ] at ho
 generalize hu : a.eval x = u at hx
 cases hx with
 | lp _ _ _ g hg =>
  refine Exec.val (u := .slice (some ⟨g, o + i, none⟩) (n - i) (n - i)) (w' := w) ?_ (.same K (.bs _ _ _ _ _ _ hg))
  simp [execOp, ho, Instr.sliceAt, Instr.sliceBounds, Instr.sliceBound, asIntOf, hu, hy, Instr.sureAddr, run_under hd, run_size hq, show n ≠ i by omega, Addr.add_lit, Nat.le_of_lt hi]
def mkSb2 (T : TypeId) (xs : List Operand) : Op := .slice T (xs.getD 0 (.tmp 0)) none (some (xs.getD 1 (.tmp 0))) none
theorem x_bs2 {T n e b o i : Nat} (hd : P.underlying T = some (.array n e)) (hq : szT P e = some 1) (hn : 0 < n) (hi : i ≤ n) : Ext P (mkSb2 T) [.lp b o, ni (i : Int)] [] [] (.bs b o i n) := by
 intro B M h m w a op xs ho K hl hr hrd _
 obtain ⟨x, y, rfl⟩ := ops2 hl
 have hx := hr 0 x _ rfl rfl
 have hy := Rep.k_inv (hr 1 y _ rfl rfl)
 simp only [mkSb2, List.getD_cons_zero, List.getD_cons_succ] at ho
 generalize hu : a.eval x = u at hx
 cases hx with
 | lp _ _ _ g hg =>
  refine Exec.val (u := .slice (some ⟨g, o, none⟩) i n) (w' := w) ?_ (.same K (.bs _ _ _ _ _ _ hg))
  simp [execOp, ho, Instr.sliceAt, Instr.sliceBounds, Instr.sliceBound, asIntOf, hu, hy, Instr.sureAddr, run_under hd, run_size hq, show n ≠ 0 by omega, Addr.add_lit, hi]
def mkSa (T : TypeId) (xs : List Operand) : Op := .sliceToArrayPointer T (xs.getD 0 (.tmp 0))
/-- A slice of an array in a box, as an array. -/
theorem x_s2p {T n e b o k c : Nat} (hd : P.underlying T = some (.array n e)) (hk : n ≤ k) : Ext P (mkSa T) [.bs b o k c] [] [] (.lp b o) := by
 intro B M h m w a op xs ho K hl hr hrd _
 obtain ⟨x, rfl⟩ := ops1 hl
 have hx := hr 0 x _ rfl rfl
 simp only [mkSa, List.getD_cons_zero] at ho
 generalize hu : a.eval x = u at hx
 cases hx with
 | bs _ _ _ _ _ g hg =>
  refine Exec.val (u := .pointer (some ⟨g, o, none⟩)) (w' := w) ?_ (.same K (.lp _ _ _ _ hg))
  simp [execOp, ho, Instr.arrayAt, hu, run_under hd, show ¬ k < n by omega]
/-- The address of an element of an array that is only read. -/
theorem x_ip {T e n q t : Nat} {l : List V} (hd : P.underlying T = some (.array n e)) (hq : szT P e = some q) (ht : t < n) : Ext P (mkIa T) [.ip l, ni (t : Int)] [] [] (.ip (l.drop (t * q))) := by
 intro B M h m w a op xs ho K hl hr hrd _
 obtain ⟨x, y, rfl⟩ := ops2 hl
 have hx := hr 0 x _ rfl rfl
 have hy := Rep.k_inv (hr 1 y _ rfl rfl)
 simp only [mkIa, List.getD_cons_zero, List.getD_cons_succ] at ho
 generalize hu : a.eval x = u at hx
 cases hx with
 | ip _ b o _ us h3 h4 h5 h6 =>
  refine Exec.val (u := .pointer (some ⟨b, o + t * q, none⟩)) (w' := w) ?_ (.same K (.ip _ b (o + t * q) _ (fun j => us (t * q + j)) h3 h4 (fun j x hj => ?_) (fun j x hj => ?_)))
  · have h1 : (0 : Int) ≤ (t : Int) := Int.natCast_nonneg t
    have h2 : (t : Int) < (n : Int) := Int.ofNat_lt.2 ht
    simp [execOp, ho, Instr.indexAt, run_under hd, hu, hy, asIntOf, Instr.sureAddr, h1, h2, ht, run_size hq, Addr.add_lit]
  · rw [List.getElem?_drop] at hj
    rw [Nat.add_assoc]
    exact h5 _ _ hj
  · rw [List.getElem?_drop] at hj
    exact h6 _ _ hj
/-- Values that stand for themselves. -/
theorem ag_k {A A' : Nat → Prop} {m m' : Nat → Option Value} {w' : World} {u : Value} {l : List V} (hl : l.all isK = true) (hr : Rep w A m u (.ag l)) : Rep w' A' m' u (.ag l) := by
 cases hr with
 | ag _ cs _ h1 h2 =>
  refine .ag _ cs _ h1 fun j x hx => ?_
  have h3 := h2 j x hx
  have h4 := List.all_eq_true.1 hl x (List.mem_of_getElem? hx)
  cases x with
  | k v => rw [Rep.k_inv h3]; exact .k _ _
  | _ => cases h4
/-- A call to which a slice of an array in a box is given: it is only read. -/
theorem x_cbs {f : FuncId} {ts : Array TypeId} {b o n c U : Nat} {cells : List V} {l : List (List V)} {y d : V} {dl : List V} (hp : Pure P f [y, .sl l] (.v d)) (hd : d = .ag dl) (hdl : dl.all isK = true) (hy : refs (fun _ => false) y = true) (hln : l.length = n) (hnc : n ≤ c) (hc : c ≤ maxLen)
 (hz : ∀ cs ∈ l, cs.length = 1) (hl : ∀ i cs x, l[i]? = some cs → cs[0]? = some x → isK x = true ∧ cells[o + i]? = some x) : Ext P (mkC2 ts) [.cl f [], y, .bs b o n c] [(b, .bx U cells)] [] d := by
 subst hd
 intro B M h m w a op xs ho K hxl hr hrd _
 obtain ⟨x0, x1, x2, rfl⟩ := three_of hxl
 have r0 := hr 0 x0 _ rfl rfl
 have r1 := hr 1 x1 _ rfl rfl
 have r2 := hr 2 x2 _ rfl rfl
 have hb : h b = .bx U cells := hrd (b, .bx U cells) (List.mem_singleton.2 rfl)
 obtain ⟨g, cs, e1, e2, e3, e4, e5⟩ := K.bx b U cells hb
 simp only [mkC2, List.getD_cons_zero, List.getD_cons_succ] at ho
 have hce : a.eval x0 = .func (.func f) #[] #[] := by
  generalize a.eval x0 = u at r0
  cases r0 with
  | cl _ _ cs _ h1 h2 =>
   have : cs = #[] := Array.eq_empty_of_size_eq_zero (by simpa using h1)
   rw [this]
 have hmo : Mo w (Av M h m) no w (fun g' => Av M h m g' ∧ g' ≠ g) no := ⟨Nat.le_refl _, fun _ _ _ => rfl, fun g' e => .inl e.1, fun _ _ e => e⟩
 have hargs : Reps w (fun g' => Av M h m g' ∧ g' ≠ g) no #[a.eval x1, a.eval x2] [y, .sl l] := by
  refine ⟨rfl, fun j x hx => ?_, K.gl.mo hmo⟩
  match j with
  | 0 =>
   simp only [List.getElem?_cons_zero, Option.some.injEq] at hx
   subst hx
   exact refs_mo (p := fun _ => false) hy (fun b hb => by cases hb) ⟨Nat.le_refl _, fun _ _ _ => rfl, fun g e => .inl e.1, fun _ _ e => e⟩ r1
  | 1 =>
   simp only [List.getElem?_cons_succ, List.getElem?_cons_zero, Option.some.injEq] at hx
   subst hx
   show Rep _ _ _ (a.eval x2) _
   generalize a.eval x2 = u at r2
   cases r2 with
   | bs _ _ _ _ _ g' hg' =>
    rw [e1] at hg'
    injection hg' with hg'
    injection hg' with hg'
    injection hg' with hg'
    injection hg' with hg'
    subst hg'
    subst hln
    refine .sl _ (some ⟨g, o, none⟩) g o c 1 l (fun i j => cs.getD (o + i) undef) hnc hc (fun _ => ⟨rfl, fun e => e.2 rfl, ⟨cs, U, _, e3⟩⟩) hz (fun i j q x hi hj => ?_) (fun i j q x hi hj => ?_)
    · have hj0 : j = 0 := by
       have := (List.getElem?_eq_some_iff.1 hj).1
       rw [hz q (List.mem_of_getElem? hi)] at this
       omega
      subst hj0
      obtain ⟨_, h2⟩ := hl i q x hi hj
      have h3 : o + i < cs.size := by rw [e4]; exact (List.getElem?_eq_some_iff.1 h2).1
      simp [World.cell?, e3, h3]
    · have hj0 : j = 0 := by
       have := (List.getElem?_eq_some_iff.1 hj).1
       rw [hz q (List.mem_of_getElem? hi)] at this
       omega
      subst hj0
      obtain ⟨h1, h2⟩ := hl i q x hi hj
      have h3 := e5 _ _ h2
      cases x with
      | k v => rw [Rep.k_inv h3]; exact .k _ _
      | _ => cases h1
  | j + 2 => simp at hx
 have hcall := hp.2 w _ _ (fun g' hg => K.av_lt hg.1) hargs
 refine .inr (.inr ⟨f, #[a.eval x1, a.eval x2], ?_, hcall.mono fun e w' he => ?_⟩)
 · have := hp.1 #[a.eval x1, a.eval x2] w
   simp [execOp, ho, resolve, hce, Deferred.ofValue, invoke, this]
 · obtain ⟨u, rfl, h1, h2⟩ := he
   refine ⟨u, rfl, ?_⟩
   have h1 : Rep w' (fun g' => Av M h m g' ∧ g' ≠ g) no u (.ag dl) := h1
   exact ⟨m, K.call h2, ag_k hdl h1, .call h2, Bl.of h2 K.bs, fun b hb => .inl hb⟩
def mkCp (ts : Array TypeId) (xs : List Operand) : Op := .call ⟨.builtin .copy, #[xs.getD 0 (.tmp 0), xs.getD 1 (.tmp 0)], ts⟩
theorem fcells (s : List UInt8) (k : Nat) : (Builtin.firstCells 1 k (.string ⟨s.toArray⟩)).run P w = .ok ((s.take k).map fun c => Value.int .u8 (c.toNat : Int)).toArray w := by
 have : ((⟨s.toArray⟩ : ByteArray).extract 0 k).data = (s.take k).toArray := by
  rw [ByteArray.data_extract]
  simp
 simp [Builtin.firstCells, this]
/-- Bytes are copied into an array in a box. -/
theorem x_cpy {ts : Array TypeId} {t t' el b o n c U k : Nat} {cells cells' : List V} {s : List UInt8} (hts : ts = #[t, t']) (hd : P.underlying t = some (.slice el)) (hs : szT P el = some 1) (hk : k = min s.length n) (hn : o + n ≤ cells.length) (hlen : cells'.length = cells.length)
 (hc : ∀ j, j < cells.length → cells'[j]? = if o ≤ j ∧ j < o + k then some (.k (.int .u8 ((s.getD (j - o) 0).toNat : Int))) else cells[j]?) : Ext P (mkCp ts) [.bs b o n c, .k (.string ⟨s.toArray⟩)] [(b, .bx U cells)] [(b, .bx U cells')] (ni (k : Int)) := by
 subst hts
 intro B M h m w a op xs ho K hl hr hrd _
 obtain ⟨x, y, rfl⟩ := ops2 hl
 have hx := hr 0 x _ rfl rfl
 have hy := Rep.k_inv (hr 1 y _ rfl rfl)
 have hb : h b = .bx U cells := hrd (b, .bx U cells) (List.mem_singleton.2 rfl)
 obtain ⟨g, cs, h1, h2, h3, h4, h5⟩ := K.bx b U cells hb
 simp only [mkCp, List.getD_cons_zero, List.getD_cons_succ] at ho
 have hsz : (P.info? el).map (·.size) = some 1 := by unfold szT at hs; exact hs
 generalize hu : a.eval x = u at hx
 cases hx with
 | bs _ _ _ _ _ g' hg =>
  rw [h1] at hg
  injection hg with hg
  injection hg with hg
  injection hg with hg
  injection hg with hg
  subst hg
  have hkl : k ≤ s.length := by omega
  let news : List Value := (s.take k).map fun c => Value.int .u8 (c.toNat : Int)
  have hnl : news.length = k := by simp only [news, List.length_map, List.length_take]; omega
  obtain ⟨w', cs', q1, q2, q3, q4, q5, q6, q7⟩ := run_storeCells (P := P) (g := g) (o := o) (T := U) news 0 w cs (fun v hv => by
   obtain ⟨c, _, rfl⟩ := List.mem_map.1 hv
   rfl) h3 (by rw [hnl, Nat.add_zero, h4]; omega)
  have hown : (h b).own = true := by rw [hb]; rfl
  obtain ⟨t1, t2⟩ := K.turn (x := .bx U cells') (u := .pointer (some ⟨g, 0, none⟩)) (g := g) hown h1 rfl q2 (fun T' l' e => by
   injection e with e1 e2
   subst e1; subst e2
   refine ⟨cs', rfl, q3, by rw [q4, h4, hlen], fun j y hy => ?_⟩
   have hjl : j < cells.length := by rw [← hlen]; exact (List.getElem?_eq_some_iff.1 hy).1
   rw [hc j hjl] at hy
   split at hy
   · rename_i hj
     have h6 := q7 (j - o) (by rw [hnl]; omega)
     rw [show o + 0 + (j - o) = j by omega] at h6
     rw [h6]
     injection hy with hy
     subst hy
     have h7 : news.getD (j - o) undef = Value.int .u8 ((s.getD (j - o) 0).toNat : Int) := by
      simp only [news, List.getD_eq_getElem?_getD, List.getElem?_map, List.getElem?_take, if_pos (show j - o < k by omega)]
      rw [List.getElem?_eq_getElem (by omega)]
      rfl
     rw [h7]
     exact .k _ _
   · rename_i hj
     have h6 : cs'.getD j undef = cs.getD j undef := by
      rcases Nat.lt_or_ge j o with h7 | h7
      · exact q5 j (by omega)
      · exact q6 j (by rw [hnl]; omega)
     rw [h6]
     exact h5 j y hy) (fun _ _ _ e => by cases e) rfl
  refine Exec.val (u := .int .i64 (k : Int)) (w' := w') ?_ ⟨m, t1, .k _ _, t2, q2.below h2, fun c hc => .inl hc⟩
  have hlo : (Builtin.copy_ #[t, t'] op.type #[a.eval x, a.eval y]).run P w = .ok (.int .i64 (k : Int)) w' := by
   have hmin : Nat.min (⟨s.toArray⟩ : ByteArray).size n = k := by rw [hk]; rfl
   have q1' := q1
   simp only [news, List.map_take] at q1'
   simp [Builtin.copy_, hu, hy, run_under hd, run_size hs, Builtin.lenOf, hmin, fcells, q1', goInt]
  simp [execOp, ho, resolve, invoke, builtin, hlo]
end
end Go.Proofs.YtnpdpjfdgialeaaGreatDoor.E
namespace Go.Proofs.YtnpdpjfdgialeaaGreatDoor.E.Hs
open Go.RowKit Sh
set_option linter.unusedVariables false
set_option linter.unusedSimpArgs false
def wv (x : Wd) : V := .k (.int .u32 (wi x))
def bv (c : UInt8) : V := .k (.int .u8 (c.toNat : Int))
def uv (n : Nat) : V := .k (.int .u64 (n : Int))
def sV (t : List UInt8) : V := .k (.string ⟨t.toArray⟩)
def st8 (s : S8) : List V := [wv s.a, wv s.b, wv s.c, wv s.d, wv s.e, wv s.f, wv s.g, wv s.h]
def bl64 (b : List UInt8) : List V := (List.range 64).map fun i => bv (b.getD i 0)
def strm (s : S8) (b : List UInt8) (n : Nat) : List V := st8 s ++ (bl64 b ++ [uv n])
section
variable {K : List Wd} {s iv : S8} {m t b blk : List UInt8} {n k a i j : Nat}
theorem getD_lt {α : Type} {l : List α} {d : α} (h : i < l.length) : l[i]? = some (l.getD i d) := by
 rw [List.getD_eq_getElem?_getD, List.getElem?_eq_getElem h]; rfl
theorem bl64_len : (bl64 b).length = 64 := by unfold bl64; simp
theorem strm_len : (strm s b n).length = 73 := by unfold strm; simp [bl64_len, st8]
theorem bl64_at (h : i < 64) : (bl64 b)[i]? = some (bv (b.getD i 0)) := by
 unfold bl64
 rw [List.getElem?_map, List.getElem?_range h]; rfl
theorem strm_at (h : i < 64) : (strm s b n)[8 + i]? = some (bv (b.getD i 0)) := by
 unfold strm
 rw [List.getElem?_append_right (by simp [st8]), show 8 + i - (st8 s).length = i by simp [st8], List.getElem?_append_left (by rw [bl64_len]; exact h), bl64_at h]
theorem strm_ne (h : ¬ (8 ≤ j ∧ j < 72)) : (strm s b n)[j]? = (strm s blk n)[j]? := by
 unfold strm
 by_cases g : j < 8
 · rw [List.getElem?_append_left (by simpa [st8] using g), List.getElem?_append_left (by simpa [st8] using g)]
 · have hl : (st8 s).length = 8 := rfl
   have h1 : (bl64 b).length = 64 := bl64_len
   have h2 : (bl64 blk).length = 64 := bl64_len
   have g1 : (st8 s).length ≤ j := by omega
   have g2 : (bl64 b).length ≤ j - (st8 s).length := by omega
   have g3 : (bl64 blk).length ≤ j - (st8 s).length := by omega
   rw [List.getElem?_append_right g1, List.getElem?_append_right g1, List.getElem?_append_right g2, List.getElem?_append_right g3, h1, h2]
theorem blkU_at (h : blk.length = 64) (hk : k ≤ t.length) (ha : a + k ≤ 64) (hi : i < 64) : (blkU blk a k t).getD i 0 = if a ≤ i ∧ i < a + k then t.getD (i - a) 0 else blk.getD i 0 := by
 unfold blkU
 simp only [List.getD_eq_getElem?_getD]
 by_cases h1 : i < a
 · rw [if_neg (by omega), List.getElem?_append_left (by rw [List.length_take]; omega), List.getElem?_take, if_pos h1]
 · rw [List.getElem?_append_right (by rw [List.length_take]; omega), List.length_take, Nat.min_eq_left (by omega)]
   by_cases h2 : i < a + k
   · rw [if_pos ⟨by omega, h2⟩, List.getElem?_append_left (by rw [List.length_take]; omega), List.getElem?_take, if_pos (by omega)]
   · rw [if_neg (by omega), List.getElem?_append_right (by rw [List.length_take]; omega), List.length_take, Nat.min_eq_left hk, List.getElem?_drop, show a + k + (i - a - k) = i by omega]
theorem strm_cpy (h : blk.length = 64) (hk : k ≤ t.length) (ha : a + k ≤ 64) (j : Nat) (hj : j < (strm s blk n).length) : (strm s (blkU blk a k t) n)[j]? = if 8 + a ≤ j ∧ j < 8 + a + k then some (.k (.int .u8 ((t.getD (j - (8 + a)) 0).toNat : Int))) else (strm s blk n)[j]? := by
 rw [strm_len] at hj
 by_cases g : 8 ≤ j ∧ j < 72
 · obtain ⟨i, rfl⟩ : ∃ i, j = 8 + i := ⟨j - 8, by omega⟩
   rw [strm_at (by omega), strm_at (by omega), blkU_at h hk ha (by omega)]
   by_cases e : a ≤ i ∧ i < a + k
   · rw [if_pos e, if_pos (by omega), show 8 + i - (8 + a) = i - a by omega]; rfl
   · rw [if_neg e, if_neg (by omega)]
 · rw [if_neg (by omega), strm_ne g]
/-- A stream and what is still to be added. -/
structure SU where
 st : S8
 blk : List UInt8
 n : Nat
 t : List UInt8
def SU.kk (q : SU) : Nat := min q.t.length (64 - q.n % 64)
def SU.bb (q : SU) : List UInt8 := blkU q.blk (q.n % 64) q.kk q.t
def SU.step (K : List Wd) (q : SU) : SU := ⟨if q.n % 64 + q.kk = 64 then q.st.block K q.bb else q.st, q.bb, q.n + q.kk, q.t.drop q.kk⟩
def SU.it (K : List Wd) (q : SU) : Nat → SU
 | 0 => q
 | i + 1 => (SU.it K q i).step K
theorem SU.inv {q : SU} (H : Str K iv m q.st q.blk) (hn : q.n = m.length) : ∀ i, ∃ c, c ≤ q.t.length ∧ (q.it K i).n = m.length + c ∧ (q.it K i).t = q.t.drop c ∧ Str K iv (m ++ q.t.take c) (q.it K i).st (q.it K i).blk ∧ (i ≤ c ∨ c = q.t.length)
 | 0 => ⟨0, Nat.zero_le _, hn, by simp [SU.it], by simpa [SU.it] using H, .inl (Nat.le_refl _)⟩
 | i + 1 => by
  obtain ⟨c, h1, h2, h3, h4, h5⟩ := SU.inv H hn i
  show ∃ c, _ ∧ ((q.it K i).step K).n = _ ∧ ((q.it K i).step K).t = _ ∧ Str K iv _ ((q.it K i).step K).st ((q.it K i).step K).blk ∧ _
  generalize q.it K i = r at *
  obtain ⟨st, bl, n, t⟩ := r
  simp only at h2 h3 h4
  subst h2; subst h3
  have hml : (m ++ q.t.take c).length = m.length + c := by rw [List.length_append, List.length_take]; omega
  have hdl : (q.t.drop c).length = q.t.length - c := List.length_drop
  have htk : ∀ k, m ++ q.t.take c ++ (q.t.drop c).take k = m ++ q.t.take (c + k) := fun k => by rw [List.append_assoc, ← List.take_add]
  by_cases g : c = q.t.length
  · have hd : q.t.drop c = [] := List.drop_of_length_le (by omega)
    have hk : (SU.mk st bl (m.length + c) (q.t.drop c)).kk = 0 := by simp [SU.kk, hdl, g]
    have hlt : (m.length + c) % 64 < 64 := Nat.mod_lt _ (by decide)
    have hb : (SU.mk st bl (m.length + c) (q.t.drop c)).bb = bl := by
     unfold SU.bb
     rw [hk]
     unfold blkU
     simp
    refine ⟨c, h1, by simp [SU.step, hk], by simp [SU.step, hk], ?_, .inr g⟩
    have hst : ((SU.mk st bl (m.length + c) (q.t.drop c)).step K).st = st := by
     unfold SU.step
     rw [hk]
     exact if_neg (by show ¬ ((m.length + c) % 64 + 0 = 64); omega)
    rw [hst]
    show Str K iv _ st (SU.mk st bl (m.length + c) (q.t.drop c)).bb
    rw [hb]
    exact h4
  · have hi : i ≤ c := h5.elim id fun e => absurd e g
    generalize hk : (SU.mk st bl (m.length + c) (q.t.drop c)).kk = k
    have hk2 : k = min (q.t.length - c) (64 - (m.length + c) % 64) := by rw [← hk, ← hdl]; rfl
    have hlt : (m.length + c) % 64 < 64 := Nat.mod_lt _ (by decide)
    have hb : (SU.mk st bl (m.length + c) (q.t.drop c)).bb = blkU bl ((m ++ q.t.take c).length % 64) k (q.t.drop c) := by
     unfold SU.bb
     rw [hk, hml]
    refine ⟨c + k, by omega, by simp [SU.step, hk, Nat.add_assoc], by simp [SU.step, hk, List.drop_drop], ?_, .inl (by omega)⟩
    rw [← htk]
    by_cases f : (m.length + c) % 64 + k = 64
    · have hst : ((SU.mk st bl (m.length + c) (q.t.drop c)).step K).st = st.block K (blkU bl ((m ++ q.t.take c).length % 64) k (q.t.drop c)) := by
       rw [← hb]
       unfold SU.step
       rw [hk]
       exact if_pos f
      rw [hst]
      show Str K iv _ _ (SU.mk st bl (m.length + c) (q.t.drop c)).bb
      rw [hb]
      exact h4.full (by rw [hml]; exact f) (by omega)
    · have hst : ((SU.mk st bl (m.length + c) (q.t.drop c)).step K).st = st := by
       unfold SU.step
       rw [hk]
       exact if_neg f
      rw [hst]
      show Str K iv _ _ (SU.mk st bl (m.length + c) (q.t.drop c)).bb
      rw [hb]
      exact h4.part (by rw [hml]; omega) (by omega)
theorem SU.fin {q : SU} (H : Str K iv m q.st q.blk) (hn : q.n = m.length) : (q.it K q.t.length).n = m.length + q.t.length ∧ (q.it K q.t.length).t = [] ∧ Str K iv (m ++ q.t) (q.it K q.t.length).st (q.it K q.t.length).blk := by
 obtain ⟨c, h1, h2, h3, h4, h5⟩ := SU.inv H hn q.t.length
 have hc : c = q.t.length := by omega
 subst hc
 rw [List.drop_length] at h3
 rw [List.take_length] at h4
 exact ⟨h2, h3, h4⟩
/-- Once nothing is to be added, nothing changes. -/
theorem SU.stay {q : SU} (hq : q.t = []) (hb : q.blk.length = 64) : q.step K = q := by
 obtain ⟨st, bl, n, t⟩ := q
 simp only at hq hb
 subst hq
 have hlt : n % 64 < 64 := Nat.mod_lt _ (by decide)
 have hk : (SU.mk st bl n []).kk = 0 := by simp [SU.kk]
 unfold SU.step
 have hbb : (SU.mk st bl n []).bb = bl := by
  unfold SU.bb
  rw [hk]
  unfold blkU
  simp
 rw [hk, hbb, if_neg (by show ¬ (n % 64 + 0 = 64); omega)]
 rfl
theorem SU.same {q : SU} (hq : (q.it K i).t = []) (hb : (q.it K i).blk.length = 64) : ∀ j, q.it K (i + j) = q.it K i
 | 0 => rfl
 | j + 1 => by
  show (q.it K (i + j)).step K = _
  rw [SU.same hq hb j, SU.stay hq hb]
end
end Go.Proofs.YtnpdpjfdgialeaaGreatDoor.E.Hs
namespace Go.Proofs.YtnpdpjfdgialeaaGreatDoor.E.Hs
open Go.RowKit Sh
set_option linter.unusedVariables false
set_option linter.unusedSimpArgs false
section
variable {x y : Wd} {n i j k : Nat}
theorem neg_and (h : 0 < n ∧ n < 32) : bits .and .u64 (IntKind.u64.wrap (-(n : Int))) 31 = ((32 - n : Nat) : Int) := by
 have hw : IntKind.u64.wrap (-(n : Int)) = ((18446744073709551616 - n : Nat) : Int) := by
  rw [IntKind.wrap_u64]
  omega
 rw [hw, show (31 : Int) = ((31 : Nat) : Int) from rfl, u64_and_nat _ _ (by omega) (by omega), Nat.and_two_pow_sub_one_eq_mod _ 5]
 congr 1
 omega
theorem shl_v (h : n < 32) : IntKind.u32.wrap (wi x * 2 ^ (min ((n : Int)).toNat IntKind.u32.bits)) = wi (x <<< n) := by
 rw [Int.toNat_natCast, show IntKind.u32.bits = 32 from rfl, Nat.min_eq_left (by omega), w_shl]
theorem shr_v (h : n < 32) : (wi x).fdiv (2 ^ (min ((n : Int)).toNat IntKind.u32.bits)) = wi (x >>> n) := by
 rw [Int.toNat_natCast, show IntKind.u32.bits = 32 from rfl, Nat.min_eq_left (by omega), w_shr]
theorem e_rotl (x : Wd) (n : Nat) (h : 0 < n ∧ n < 32) : Pure PP 139 [wv x, ni (-(n : Int))] (wv (rr n x)) := by
 have h1 : V.k (.int .u64 (bits .and .u64 (IntKind.u64.wrap (-(n : Int))) 31)) = uv (32 - n) := by rw [neg_and h]; rfl
 have h2 : V.k (.int .u32 (IntKind.u32.wrap (wi x * 2 ^ (min (((32 - n : Nat) : Int)).toNat IntKind.u32.bits)))) = wv (x <<< (32 - n)) := by rw [shl_v (by omega)]; rfl
 have h3 : V.k (.int .u64 (IntKind.u64.wrap (32 - ((32 - n : Nat) : Int)))) = uv n := by
  rw [IntKind.wrap_u64, show (32 - ((32 - n : Nat) : Int)) % 18446744073709551616 = (n : Int) by omega]; rfl
 have h4 : V.k (.int .u32 ((wi x).fdiv (2 ^ (min ((n : Int)).toNat IntKind.u32.bits)))) = wv (x >>> n) := by rw [shr_v (by omega)]; rfl
 have h5 : V.k (.int .u32 (bits .or .u32 (wi (x <<< (32 - n))) (wi (x >>> n)))) = wv (rr n x) := by rw [w_or, rr_l]; rfl
 exact tr [.eqv 8 _ _ h1, .eqv 11 _ _ h2, .eqv 14 _ _ h3, .eqv 15 _ _ h4, .eqv 16 _ _ h5] (by kernel_rfl)
theorem neg_v (h : n < 64) : ni (IntKind.i64.wrap (0 - (n : Int))) = ni (-(n : Int)) := by
 rw [IntKind.wrap_i64, show (0 - (n : Int) + 9223372036854775808) % 18446744073709551616 - 9223372036854775808 = -(n : Int) by omega]
theorem xor_v (x y : Wd) : V.k (.int .u32 (bits .xor .u32 (wi x) (wi y))) = wv (x ^^^ y) := by rw [w_xor]; rfl
noncomputable def fx (t : Nat) (x y : Wd) : F_ := .eqv t _ _ (xor_v x y)
theorem e_mix (x : Wd) (i j k : Nat) (hi : 0 < i ∧ i < 32) (hj : 0 < j ∧ j < 32) (hk : 0 < k ∧ k < 32) : Pure PP 100 [wv x, ni (i : Int), ni (j : Int), ni (k : Int)] (wv (rr i x ^^^ rr j x ^^^ rr k x)) :=
 tr [.eqv 11 _ _ (neg_v (n := i) (by omega)), cl (e_rotl x i hi), .eqv 15 _ _ (neg_v (n := j) (by omega)), cl (e_rotl x j hj), fx 17 (rr i x) (rr j x), .eqv 20 _ _ (neg_v (n := k) (by omega)), cl (e_rotl x k hk), fx 22 (rr i x ^^^ rr j x) (rr k x)] (by kernel_rfl)
end
end Go.Proofs.YtnpdpjfdgialeaaGreatDoor.E.Hs
namespace Go.Proofs.YtnpdpjfdgialeaaGreatDoor.E.Hs
open Go.RowKit Sh
set_option linter.unusedVariables false
set_option linter.unusedSimpArgs false
def w64 (W : Nat → Wd) : List V := (List.range 64).map fun i => wv (W i)
def wU (b : List UInt8) (i : Nat) : Wd := (wordsU b 64).getD i 0
section
variable {B b : List UInt8} {W : Nat → Wd} {x y z u : Wd} {n i j t : Nat}
theorem w64_len : (w64 W).length = 64 := by unfold w64; simp
theorem w64_at (h : i < 64) : (w64 W)[i]? = some (wv (W i)) := by
 unfold w64
 rw [List.getElem?_map, List.getElem?_range h]; rfl
theorem w64_set (W' : Nat → Wd) (v : Wd) (h1 : W' t = v) (h2 : ∀ i, i ≠ t → W' i = W i) : (w64 W).set t (wv v) = w64 W' := by
 apply List.ext_getElem?
 intro i
 rw [List.getElem?_set, w64_len]
 by_cases e : t = i
 · subst e
   rw [if_pos rfl]
   by_cases g : t < 64
   · rw [if_pos g, w64_at g, h1]
   · rw [if_neg g, List.getElem?_eq_none (by rw [w64_len]; omega)]
 · rw [if_neg e]
   by_cases g : i < 64
   · rw [w64_at g, w64_at g, h2 i fun q => e q.symm]
   · rw [List.getElem?_eq_none (by rw [w64_len]; omega), List.getElem?_eq_none (by rw [w64_len]; omega)]
theorem gd_app {l r : List Wd} (h : i < l.length) : (l ++ r).getD i 0 = l.getD i 0 := by
 rw [List.getD_eq_getElem?_getD, List.getElem?_append_left h, List.getD_eq_getElem?_getD]
theorem gd_end {l : List Wd} : (l ++ [x]).getD l.length 0 = x := by
 rw [List.getD_eq_getElem?_getD, List.getElem?_append_right (Nat.le_refl _), Nat.sub_self]; rfl
theorem words_pre (b : List UInt8) (h : i < t) : ∀ d, (wordsU b (t + d)).getD i 0 = (wordsU b t).getD i 0
 | 0 => rfl
 | d + 1 => by
  show ((wordsU b (t + d)) ++ [_]).getD i 0 = _
  rw [gd_app (by rw [wordsU_len]; omega), words_pre b h d]
theorem words_at (b : List UInt8) (h : i < t) (ht : t ≤ 64) : (wordsU b t).getD i 0 = wU b i := by
 obtain ⟨d, hd⟩ : ∃ d, 64 = t + d := ⟨64 - t, by omega⟩
 unfold wU
 rw [hd, words_pre b h d]
theorem wU_eq (b : List UInt8) (h : t < 64) : wU b t = if t < 16 then bw (b.getD (4 * t) 0) (b.getD (4 * t + 1) 0) (b.getD (4 * t + 2) 0) (b.getD (4 * t + 3) 0) else (wordsU b t).getD (t - 16) 0 + ss0 ((wordsU b t).getD (t - 15) 0) + (wordsU b t).getD (t - 7) 0 + ss1 ((wordsU b t).getD (t - 2) 0) := by
 rw [← words_at b (Nat.lt_succ_self t) (by omega)]
 have e : ∀ x, ((wordsU b t) ++ [x]).getD t 0 = x := fun x => by
  have := gd_end (l := wordsU b t) (x := x)
  rwa [wordsU_len] at this
 exact e _
theorem wU_lo (b : List UInt8) (h : t < 16) : wU b t = bw (b.getD (4 * t) 0) (b.getD (4 * t + 1) 0) (b.getD (4 * t + 2) 0) (b.getD (4 * t + 3) 0) := by
 rw [wU_eq b (by omega), if_pos h]
theorem wU_hi (b : List UInt8) (h : 16 ≤ t ∧ t < 64) : wU b t = wU b (t - 16) + ss0 (wU b (t - 15)) + wU b (t - 7) + ss1 (wU b (t - 2)) := by
 rw [wU_eq b h.2, if_neg (by omega), words_at b (by omega) (by omega), words_at b (by omega) (by omega), words_at b (by omega) (by omega), words_at b (by omega) (by omega)]
/-- So many words are there; the next one is being made. -/
def wS (b : List UInt8) (t : Nat) (x : Wd) (i : Nat) : Wd := if i < t then wU b i else if i = t then x else 0
theorem wS_lt (h : i < t) : wS b t x i = wU b i := if_pos h
theorem wS_eq : wS b t x t = x := by unfold wS; rw [if_neg (Nat.lt_irrefl _), if_pos rfl]
theorem wS_set (y : Wd) : (w64 (wS b t x)).set t (wv y) = w64 (wS b t y) := w64_set _ _ wS_eq fun i h => by
 unfold wS
 rw [if_neg h]
 by_cases g : i < t
 · rw [if_pos g, if_pos g]
 · rw [if_neg g, if_neg g, if_neg h]
theorem wS_next : w64 (wS b t (wU b t)) = w64 (wS b (t + 1) 0) := by
 unfold w64
 refine List.map_congr_left fun i _ => congrArg wv ?_
 unfold wS
 by_cases g : i < t
 · rw [if_pos g, if_pos (by omega)]
 · by_cases e : i = t
   · subst e; rw [if_neg g, if_pos rfl, if_pos (by omega)]
   · rw [if_neg g, if_neg e, if_neg (by omega)]
     split <;> rfl
theorem add_v (x y : Wd) : V.k (.int .u32 (IntKind.u32.wrap (wi x + wi y))) = wv (x + y) := by rw [w_add]; rfl
theorem or_v (x y : Wd) : V.k (.int .u32 (bits .or .u32 (wi x) (wi y))) = wv (x ||| y) := by rw [w_or]; rfl
noncomputable def fa (t : Nat) (x y : Wd) : F_ := .eqv t _ _ (add_v x y)
noncomputable def fo (t : Nat) (x y : Wd) : F_ := .eqv t _ _ (or_v x y)
theorem u8_v (c : UInt8) : V.k (.int .u32 (IntKind.u32.wrap (c.toNat : Int))) = wv (BitVec.ofNat 32 c.toNat) := by
 have h : c.toNat < 256 := c.toNat_lt
 unfold wv wi
 rw [IntKind.wrap_u32', BitVec.toNat_ofNat, Nat.mod_eq_of_lt (by omega)]
 congr 2
 omega
theorem shl_k (h : n < 32) : V.k (.int .u32 (IntKind.u32.wrap (wi x * 2 ^ n))) = wv (x <<< n) := by rw [w_shl]; rfl
theorem shr_k (h : n < 32) : V.k (.int .u32 ((wi x).fdiv (2 ^ n))) = wv (x >>> n) := by rw [w_shr]; rfl
theorem sub_i (h : j ≤ i) (hi : i < 1000000) : ni (IntKind.i64.wrap ((i : Int) - (j : Int))) = ni ((i - j : Nat) : Int) := by
 rw [IntKind.wrap_i64, show ((i : Int) - (j : Int) + 9223372036854775808) % 18446744073709551616 - 9223372036854775808 = ((i - j : Nat) : Int) by omega]
theorem mul_i (hi : i < 1000000) (hj : j < 1000000) : ni (IntKind.i64.wrap ((j : Int) * (i : Int))) = ni ((j * i : Nat) : Int) := by
 have : j * i < 1000000 * 1000000 := Nat.mul_lt_mul'' hj hi
 rw [IntKind.wrap_i64, ← Int.natCast_mul, show (((j * i : Nat) : Int) + 9223372036854775808) % 18446744073709551616 - 9223372036854775808 = ((j * i : Nat) : Int) by omega]
theorem add_i (hi : i < 1000000000000) (hj : j < 1000000000000) : ni (IntKind.i64.wrap ((i : Int) + (j : Int))) = ni ((i + j : Nat) : Int) := by
 rw [IntKind.wrap_i64, show ((i : Int) + (j : Int) + 9223372036854775808) % 18446744073709551616 - 9223372036854775808 = ((i + j : Nat) : Int) by omega]
theorem byL_four (h : 4 * t + 4 ≤ B.length) : ((byL B).take (4 * t + 4)).drop (4 * t) = [[bv (B.getD (4 * t) 0)], [bv (B.getD (4 * t + 1) 0)], [bv (B.getD (4 * t + 2) 0)], [bv (B.getD (4 * t + 3) 0)]] := by
 unfold byL
 apply List.ext_getElem?
 intro i
 rw [List.getElem?_drop, List.getElem?_take]
 match i with
 | 0 => rw [if_pos (by omega), List.getElem?_map, getD_lt (d := 0) (show 4 * t + 0 < B.length by omega)]; rfl
 | 1 => rw [if_pos (by omega), List.getElem?_map, getD_lt (d := 0) (show 4 * t + 1 < B.length by omega)]; rfl
 | 2 => rw [if_pos (by omega), List.getElem?_map, getD_lt (d := 0) (show 4 * t + 2 < B.length by omega)]; rfl
 | 3 => rw [if_pos (by omega), List.getElem?_map, getD_lt (d := 0) (show 4 * t + 3 < B.length by omega)]; rfl
 | i + 4 => rw [if_neg (by omega)]; rfl
noncomputable abbrev fSc : Func := fnOf PP 99
abbrev T64 : Nat := 141
abbrev T32 : Nat := 56
theorem a64 (h : t < 64) (b : Nat) : Ext PP (mkIa T64) [.lp b 0, ni (t : Int)] [] [] (.lp b (0 + t * 1)) := x_ia (n := 64) (e := T32) (by kernel_rfl) (by kernel_rfl) h
theorem l64 {l : List V} {d : Wd} (b : Nat) (h : l[t]? = some (wv d)) : Ext PP (mkLd T32) [.lp b (0 + t * 1)] [(b, .bx T64 l)] [] (wv d) := x_ld (by kernel_rfl) (by rw [Nat.zero_add, Nat.mul_one]; exact h)
theorem s64 {l l' : List V} {d : Wd} (b : Nat) (h : t < l.length) (h2 : l.set t (wv d) = l') : Ext PP (mkSt T32) [.lp b (0 + t * 1), wv d] [(b, .bx T64 l)] [(b, .bx T64 l')] .un := x_st (by kernel_rfl) rfl rfl (by omega) (by rw [Nat.zero_add, Nat.mul_one]; exact h2)
theorem ldS (b : Nat) (h : i < t) (g : i < 64) : Ext PP (mkLd T32) [.lp b (0 + i * 1)] [(b, .bx T64 (w64 (wS B t x)))] [] (wv (wU B i)) := l64 b (by rw [w64_at g, wS_lt h])
theorem ldE (b : Nat) (g : t < 64) : Ext PP (mkLd T32) [.lp b (0 + t * 1)] [(b, .bx T64 (w64 (wS B t x)))] [] (wv x) := l64 b (by rw [w64_at g, wS_eq])
theorem stS (b : Nat) (g : t < 64) (y : Wd) : Ext PP (mkSt T32) [.lp b (0 + t * 1), wv y] [(b, .bx T64 (w64 (wS B t x)))] [(b, .bx T64 (w64 (wS B t y)))] .un := s64 b (by rw [w64_len]; exact g) (wS_set y)
noncomputable def scX (B : List UInt8) (t : Nat) : St := at_ fSc [(0, .sl (byL B)), (2, .lp 0 0), (3, .lp 1 0), (11, ni (t : Int))] [.bx T64 (w64 (wS B 0 0)), .bx T64 (w64 (wS B t 0))]
def four (B : List UInt8) (t : Nat) : List (List V) := [[bv (B.getD (4 * t) 0)], [bv (B.getD (4 * t + 1) 0)], [bv (B.getD (4 * t + 2) 0)], [bv (B.getD (4 * t + 3) 0)]]
noncomputable def scY (B : List UInt8) (t j : Nat) (x : Wd) : St := at_ fSc [(0, .sl (byL B)), (2, .lp 0 0), (3, .lp 1 0), (4, ni (t : Int)), (11, ni (t : Int)), (22, .sl (four B t)), (23, ni 4), (24, ni (j : Int))] [.bx T64 (w64 (wS B 0 0)), .bx T64 (w64 (wS B t x))]
end
end Go.Proofs.YtnpdpjfdgialeaaGreatDoor.E.Hs
