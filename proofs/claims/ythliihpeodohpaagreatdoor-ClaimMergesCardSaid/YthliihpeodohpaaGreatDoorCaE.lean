/-
 CLAIMS: possible fits, by the engine (printed by gen/cae.py).
-/
import Derived.Test.YthliihpeodohpaaGreatDoorCaC
namespace Go.Proofs.YthliihpeodohpaaGreatDoor.E.Ca
open Go.RowKit
set_option linter.unusedVariables false
set_option linter.unusedSimpArgs false
/-- A fit whose rational numbers are such. -/
structure FQ where
 a : Int
 b : Int
 ea : Int
 eb : Int
 many : Int
 r0 : Rat
 r1 : Rat
 r2 : Rat
 r3 : Rat
 r4 : Rat
 r5 : Rat
structure CQ where
 by_ : Int
 seq : Int
 tick : Int
 kind : Int
 refs : List (Int × Int)
 fit : FQ
 w : Int
def FQ.fm (f : FQ) : FM := ⟨f.a, f.b, f.ea, f.eb, f.many, ofR f.r0, ofR f.r1, ofR f.r2, ofR f.r3, ofR f.r4, ofR f.r5⟩
def CQ.cm (c : CQ) : CM := ⟨c.by_, c.seq, c.tick, c.kind, c.refs, c.fit.fm, c.w⟩
def FQ.qs (f : FQ) : List Rat := [f.r0, f.r1, f.r2, f.r3, f.r4, f.r5]
def FQ.wh (f : FQ) : List Int := [f.a, f.b, f.ea, f.eb, f.many]
def dQ (c : CQ) : List V := dC c.cm
def fP (f g : FQ) : Prop := f.wh = g.wh ∧ f.qs = g.qs
def eqP (c d : CQ) : Prop := c.by_ = d.by_ ∧ c.seq = d.seq ∧ c.tick = d.tick ∧ c.kind = d.kind ∧ c.w = d.w ∧ c.refs = d.refs ∧ fP c.fit d.fit
instance (f g : FQ) : Decidable (fP f g) := by unfold fP; infer_instance
instance (c d : CQ) : Decidable (eqP c d) := by unfold eqP; infer_instance
section
variable {c d : CQ} {f g : FQ}
noncomputable abbrev fsf : Func := fnOf PP 57
def fitL (f : FQ) : List V := dF f.fm
theorem e_samefit (f g : FQ) : Pure PP 57 [.ag (fitL f), .ag (fitL g)] (bo (decide (fP f g))) := by
 let X : Nat → St := fun i => at_ fsf [(2, .lp 0 0), (3, .lp 1 0), (5, .sl (f.qs.map dR)), (6, .sl (g.qs.map dR)), (7, ni i)] [.bx 43 (fitL f), .bx 43 (fitL g)]
 refine pf (by kernel_rfl) (.to mo_ [] [2, 3, 5, 6, 7] [0, 1] 2 [cl (e_numbersC6 f.fm), cl (e_numbersC6 g.fm)] (td' := lp fsf 0) (σ' := X 0) ?_ (by kernel_rfl))
 refine Gd.loop X (fun i => i ≤ 6 ∧ f.qs.take i = g.qs.take i) (fun i => 6 - i) ?_ 0 ⟨Nat.zero_le _, rfl⟩
 intro i ⟨hi, hI⟩ ih
 by_cases h : i < 6
 · obtain ⟨a, ha, _⟩ := get_of (l := f.qs) h
   obtain ⟨b, hb, _⟩ := get_of (l := g.qs) h
   have hlt : decide ((i : Int) < ((f.qs.map dR).length : Int)) = true := decide_eq_true (by show (i : Int) < 6; omega)
   by_cases e : a = b
   · exact .to mo_ [] [2, 3, 5, 6, 7] [0, 1] 2 [ye hlt, .sel _ _ _ (sel_map (f := dR) ha), .sel _ _ _ (sel_map (f := dR) hb), cl (e_same4 a b), na (t := !(decide (a = b))) (by simp [e]), inc 17 i (by omega)] (ih (i + 1) ⟨h, take_step hI ha hb e⟩ (by omega)) (by kernel_rfl)
   · rw [show decide (fP f g) = false from decide_eq_false fun q => ne_at ha hb e q.2]
     exact fi [ye hlt, .sel _ _ _ (sel_map (f := dR) ha), .sel _ _ _ (sel_map (f := dR) hb), cl (e_same4 a b), ye (t := !(decide (a = b))) (by simp [e])] (by kernel_rfl) (by kernel_rfl)
 · have hq : f.qs = g.qs := eq_of_take hI h rfl
   cases h7 : (f.a == g.a : Bool) with
   | true =>
     cases h8 : (f.b == g.b : Bool) with
     | true =>
       cases h9 : (f.ea == g.ea : Bool) with
       | true =>
         cases h10 : (f.eb == g.eb : Bool) with
         | true =>
           rw [show decide (fP f g) = (f.many == g.many) from by rw [Bool.eq_iff_iff]; simp only [decide_eq_true_eq, beq_iff_eq, fP, FQ.wh]; simp at h7 h8 h9 h10; simp [hq, h7, h8, h9, h10]]
           exact fi [na (t := decide ((i : Int) < ((f.qs.map dR).length : Int))) (decide_eq_false (by show ¬ (i : Int) < 6; omega)), ye (t := f.a == g.a) h7, ye (t := f.b == g.b) h8, ye (t := f.ea == g.ea) h9, ye (t := f.eb == g.eb) h10] (by kernel_rfl) (by kernel_rfl)
         | false =>
           rw [show decide (fP f g) = false from decide_eq_false fun e => by obtain ⟨e, _⟩ := e; rw [FQ.wh, FQ.wh] at e; simp at e; simp [e] at h10]
           exact fi [na (t := decide ((i : Int) < ((f.qs.map dR).length : Int))) (decide_eq_false (by show ¬ (i : Int) < 6; omega)), ye (t := f.a == g.a) h7, ye (t := f.b == g.b) h8, ye (t := f.ea == g.ea) h9, na (t := f.eb == g.eb) h10] (by kernel_rfl) (by kernel_rfl)
       | false =>
         rw [show decide (fP f g) = false from decide_eq_false fun e => by obtain ⟨e, _⟩ := e; rw [FQ.wh, FQ.wh] at e; simp at e; simp [e] at h9]
         exact fi [na (t := decide ((i : Int) < ((f.qs.map dR).length : Int))) (decide_eq_false (by show ¬ (i : Int) < 6; omega)), ye (t := f.a == g.a) h7, ye (t := f.b == g.b) h8, na (t := f.ea == g.ea) h9, nf] (by kernel_rfl) (by kernel_rfl)
     | false =>
       rw [show decide (fP f g) = false from decide_eq_false fun e => by obtain ⟨e, _⟩ := e; rw [FQ.wh, FQ.wh] at e; simp at e; simp [e] at h8]
       exact fi [na (t := decide ((i : Int) < ((f.qs.map dR).length : Int))) (decide_eq_false (by show ¬ (i : Int) < 6; omega)), ye (t := f.a == g.a) h7, na (t := f.b == g.b) h8, nf, nf] (by kernel_rfl) (by kernel_rfl)
   | false =>
     rw [show decide (fP f g) = false from decide_eq_false fun e => by obtain ⟨e, _⟩ := e; rw [FQ.wh, FQ.wh] at e; simp at e; simp [e] at h7]
     exact fi [na (t := decide ((i : Int) < ((f.qs.map dR).length : Int))) (decide_eq_false (by show ¬ (i : Int) < 6; omega)), na (t := f.a == g.a) h7, nf, nf, nf] (by kernel_rfl) (by kernel_rfl)
noncomputable abbrev fs15 : Func := fnOf PP 34
theorem e_csame6 (c d : CQ) : Pure PP 34 [.ag (dQ c), .ag (dQ d)] (bo (decide (eqP c d))) := by
 refine .lenA 0 4 (l := rfs c.refs) (by kernel_rfl) rfl rfl fun hm => ?_
 rw [rfs, List.length_map] at hm
 unfold maxLen at hm
 cases h11 : (c.by_ != d.by_ : Bool) with
 | true =>
   rw [show decide (eqP c d) = false from decide_eq_false fun e => by obtain ⟨e1, e2, e3, e4, e5, e6, e7⟩ := e; simp [e1, e2, e3, e4, e5, e6] at h11]
   exact tr [ye (t := c.by_ != d.by_) h11, yt, yt, yt, yt, yt] (by kernel_rfl)
 | false =>
   cases h12 : (c.seq != d.seq : Bool) with
   | true =>
     rw [show decide (eqP c d) = false from decide_eq_false fun e => by obtain ⟨e1, e2, e3, e4, e5, e6, e7⟩ := e; simp [e1, e2, e3, e4, e5, e6] at h12]
     exact tr [na (t := c.by_ != d.by_) h11, ye (t := c.seq != d.seq) h12, yt, yt, yt, yt] (by kernel_rfl)
   | false =>
     cases h13 : (c.tick != d.tick : Bool) with
     | true =>
       rw [show decide (eqP c d) = false from decide_eq_false fun e => by obtain ⟨e1, e2, e3, e4, e5, e6, e7⟩ := e; simp [e1, e2, e3, e4, e5, e6] at h13]
       exact tr [na (t := c.by_ != d.by_) h11, na (t := c.seq != d.seq) h12, ye (t := c.tick != d.tick) h13, yt, yt, yt] (by kernel_rfl)
     | false =>
       cases h14 : (c.kind != d.kind : Bool) with
       | true =>
         rw [show decide (eqP c d) = false from decide_eq_false fun e => by obtain ⟨e1, e2, e3, e4, e5, e6, e7⟩ := e; simp [e1, e2, e3, e4, e5, e6] at h14]
         exact tr [na (t := c.by_ != d.by_) h11, na (t := c.seq != d.seq) h12, na (t := c.tick != d.tick) h13, ye (t := c.kind != d.kind) h14, yt, yt] (by kernel_rfl)
       | false =>
         cases h15 : (c.w != d.w : Bool) with
         | true =>
           rw [show decide (eqP c d) = false from decide_eq_false fun e => by obtain ⟨e1, e2, e3, e4, e5, e6, e7⟩ := e; simp [e1, e2, e3, e4, e5, e6] at h15]
           exact tr [na (t := c.by_ != d.by_) h11, na (t := c.seq != d.seq) h12, na (t := c.tick != d.tick) h13, na (t := c.kind != d.kind) h14, ye (t := c.w != d.w) h15, yt] (by kernel_rfl)
         | false =>
           cases h16 : (((rfs c.refs).length : Int) != ((rfs d.refs).length : Int) : Bool) with
           | true =>
             rw [show decide (eqP c d) = false from decide_eq_false fun e => by obtain ⟨e1, e2, e3, e4, e5, e6, e7⟩ := e; simp [e1, e2, e3, e4, e5, e6] at h16]
             exact tr [na (t := c.by_ != d.by_) h11, na (t := c.seq != d.seq) h12, na (t := c.tick != d.tick) h13, na (t := c.kind != d.kind) h14, na (t := c.w != d.w) h15, ye (t := ((rfs c.refs).length : Int) != ((rfs d.refs).length : Int)) h16] (by kernel_rfl)
           | false =>
             have hl : c.refs.length = d.refs.length := by simp [rfs] at h16; omega
             have hh : c.by_ = d.by_ ∧ c.seq = d.seq ∧ c.tick = d.tick ∧ c.kind = d.kind ∧ c.w = d.w := ⟨by simpa using h11, by simpa using h12, by simpa using h13, by simpa using h14, by simpa using h15⟩
             let X : Nat → St := fun i => at_ fs15 [(2, .lp 0 0), (3, .lp 1 0), (5, ni i)] [.bx 45 (dQ c), .bx 45 (dQ d)]
             refine pf (by kernel_rfl) (.to mo_ [] [2, 3, 5] [0, 1] 2 [na (t := c.by_ != d.by_) h11, na (t := c.seq != d.seq) h12, na (t := c.tick != d.tick) h13, na (t := c.kind != d.kind) h14, na (t := c.w != d.w) h15, na (t := ((rfs c.refs).length : Int) != ((rfs d.refs).length : Int)) h16] (td' := lp fs15 0) (σ' := X 0) ?_ (by kernel_rfl))
             refine Gd.loop X (fun i => i ≤ c.refs.length ∧ c.refs.take i = d.refs.take i) (fun i => c.refs.length - i) ?_ 0 ⟨Nat.zero_le _, rfl⟩
             intro i ⟨hi, hI⟩ ih
             by_cases h : i < c.refs.length
             · obtain ⟨a, ha, _⟩ := get_of h
               obtain ⟨b, hb, _⟩ := get_of (l := d.refs) (i := i) (by omega)
               have hlt : decide ((i : Int) < ((rfs c.refs).length : Int)) = true := decide_eq_true (by rw [rfs, List.length_map]; omega)
               by_cases e1 : a.1 = b.1
               · by_cases e2 : a.2 = b.2
                 · exact .to mo_ [] [2, 3, 5] [0, 1] 2 [ye hlt, .sel _ _ _ (sel_map (f := nm) ha), .sel _ _ _ (sel_map (f := nm) hb), na (t := a.1 != b.1) (by simp [e1]), .sel _ _ _ (sel_map (f := nm) ha), .sel _ _ _ (sel_map (f := nm) hb), na (t := a.2 != b.2) (by simp [e2]), inc 54 i (by omega)] (ih (i + 1) ⟨h, take_step hI ha hb (Prod.ext e1 e2)⟩ (by omega)) (by kernel_rfl)
                 · rw [show decide (eqP c d) = false from decide_eq_false fun q => ne_at ha hb (fun e => e2 (by rw [e])) q.2.2.2.2.2.1]
                   exact fi [ye hlt, .sel _ _ _ (sel_map (f := nm) ha), .sel _ _ _ (sel_map (f := nm) hb), na (t := a.1 != b.1) (by simp [e1]), .sel _ _ _ (sel_map (f := nm) ha), .sel _ _ _ (sel_map (f := nm) hb), ye (t := a.2 != b.2) (by simp [e2])] (by kernel_rfl) (by kernel_rfl)
               · rw [show decide (eqP c d) = false from decide_eq_false fun q => ne_at ha hb (fun e => e1 (by rw [e])) q.2.2.2.2.2.1]
                 exact fi [ye hlt, .sel _ _ _ (sel_map (f := nm) ha), .sel _ _ _ (sel_map (f := nm) hb), ye (t := a.1 != b.1) (by simp [e1]), yt] (by kernel_rfl) (by kernel_rfl)
             · rw [show decide (eqP c d) = decide (fP c.fit d.fit) from decide_eq_decide.2 ⟨fun e => e.2.2.2.2.2.2, fun e => ⟨hh.1, hh.2.1, hh.2.2.1, hh.2.2.2.1, hh.2.2.2.2, eq_of_take hI h hl, e⟩⟩]
               exact fi [na (t := decide ((i : Int) < ((rfs c.refs).length : Int))) (decide_eq_false (by rw [rfs, List.length_map]; omega)), cl (e_samefit c.fit d.fit)] (by kernel_rfl) (by kernel_rfl)
end
end Go.Proofs.YthliihpeodohpaaGreatDoor.E.Ca
namespace Go.Proofs.YthliihpeodohpaaGreatDoor.E.Ca
open Go.RowKit
set_option linter.unusedVariables false
set_option linter.unusedSimpArgs false
open Classical in
/-- The rational number that is written. -/
noncomputable def q (n : RN) : Rat := if h : rok n then h.choose else 0
theorem dI_inj {x y : Int} (h1 : decide (x < 0) = decide (y < 0)) (h2 : digs x.natAbs = digs y.natAbs) : x = y := by
 have h3 : (x.natAbs : Int) = y.natAbs := by rw [← (digs_ok x.natAbs).2, ← (digs_ok y.natAbs).2, h2]
 have := decide_eq_decide.1 h1
 omega
theorem ofR_inj {r t : Rat} (h : ofR r = ofR t) : r = t := by
 unfold ofR at h
 injection h with h1 h2 h3 h4
 exact dq_inj (dI_inj h1 h2) (dI_inj h3 h4)
theorem q_eq {n : RN} (h : rok n) : n = ofR (q n) := by
 unfold q
 rw [dif_pos h]
 exact h.choose_spec
theorem q_ofR (r : Rat) : q (ofR r) = r := (ofR_inj (q_eq ⟨r, rfl⟩)).symm
section
variable {n : RN} {f : FM} {k : Nat} {r t : Rat} {nd : Bool}
open Classical in
noncomputable def okB (n : RN) : Bool := decide (rok n)
theorem okB_t (h : okB n = true) : rok n := by unfold okB at h; simpa using h
theorem okB_f (h : okB n = false) : ¬ rok n := by unfold okB at h; simpa using h
theorem okB_ofR (r : Rat) : okB (ofR r) = true := by unfold okB; simpa using ⟨r, rfl⟩
theorem e_rvalidN (hb : Bn k n) (hk : 1 ≤ k ∧ k ≤ 100000) : Pure PP 90 [.ag (cN n)] (bo (okB n)) := by
 cases h : okB n with
 | true =>
  obtain ⟨r, rfl⟩ := okB_t h
  exact e_rvalid (hb.bq hk.1) (by omega)
 | false => exact e_rvalid_no (okB_f h) hb (by omega)
noncomputable def badR (nd : Bool) (n : RN) : Bool := !okB n || (!nd && (sgnZ (q n).num != 0))
theorem e_fits1 (hb : Bn k n) (hk : 1 ≤ k ∧ k ≤ 100000) : Pure PP 89 [.ag (cN n), .ip [bo nd]] (bo (badR nd n)) := by
 have hv := e_rvalidN hb hk
 unfold badR
 cases h : okB n with
 | false =>
  rw [h] at hv
  exact tr [cl hv, yt] (by kernel_rfl)
 | true =>
  rw [h] at hv
  obtain ⟨r, rfl⟩ := okB_t h
  rw [q_ofR]
  cases nd with
  | true => exact tr [cl hv, nf, nf] (by kernel_rfl)
  | false => exact tr [cl hv, nf, yt, cl (e_rsign r)] (by kernel_rfl)
def edgeB (x : Int) : Bool := decide (x ≥ 0) && decide (x < 12)
theorem e_edge (x : Int) : Pure PP 92 [ni x] (bo (edgeB x)) := by
 unfold edgeB
 cases h : decide (x ≥ 0) with
 | true => exact tr [ye (t := decide (x ≥ 0)) h] (by kernel_rfl)
 | false => exact tr [na (t := decide (x ≥ 0)) h] (by kernel_rfl)
noncomputable def oneB (r t : Rat) : Bool := decide (r * r + t * t = Rat.divInt 1 1)
theorem e_tvalid (br : Bq k r) (bt : Bq k t) (hk : k ≤ 100000) : Pure PP 93 [.ag (dR r ++ dR t)] (bo (oneB r t)) :=
 tr [cl (e_rvalid br (by omega)), yt, cl (e_rvalid bt (by omega)), yt, cl (e_rmul br br (by omega)), cl (e_rmul bt bt (by omega)), cl (e_sum2 (br.mul br) (bt.mul bt) (by omega)), cl (e_rof (x := 1) (y := 1) ⟨by decide, by decide⟩ ⟨by decide, by decide⟩), cl (e_rsame (r * r + t * t) (Rat.divInt 1 1))] (by kernel_rfl)
noncomputable def needB (f : FM) : Bool := decide (f.a ≥ 0) && decide (f.a < f.b) && decide (f.b < 12) && edgeB f.ea && edgeB f.eb && edgeB f.many && decide (f.many > 0) && oneB (q f.n0) (q f.n1) && decide (cmpQ (q f.n2) (q f.n4) ≤ 0) && decide (cmpQ (q f.n3) (q f.n5) ≤ 0)
/-- Is a fit possible, or zero where it is not needed? -/
noncomputable def fitsB (f : FM) (nd : Bool) : Bool := !(nu f).any (badR nd) && (match nd with | false => decide (wh f = [0, 0, 0, 0, 0]) | true => needB f)
theorem all_ok (h : (nu f).any (badR nd) = false) : ∃ g : FQ, f = g.fm := by
 rw [List.any_eq_false] at h
 have ok : ∀ n ∈ nu f, rok n := fun n hn => by
  have := h n hn
  unfold badR at this
  cases h2 : okB n with
  | true => exact okB_t h2
  | false => rw [h2] at this; simp at this
 obtain ⟨a, b, ea, eb, many, n0, n1, n2, n3, n4, n5⟩ := f
 obtain ⟨r0, rfl⟩ := ok n0 (by simp [nu])
 obtain ⟨r1, rfl⟩ := ok n1 (by simp [nu])
 obtain ⟨r2, rfl⟩ := ok n2 (by simp [nu])
 obtain ⟨r3, rfl⟩ := ok n3 (by simp [nu])
 obtain ⟨r4, rfl⟩ := ok n4 (by simp [nu])
 obtain ⟨r5, rfl⟩ := ok n5 (by simp [nu])
 exact ⟨⟨a, b, ea, eb, many, r0, r1, r2, r3, r4, r5⟩, rfl⟩
abbrev z5 : List V := [ni 0, ni 0, ni 0, ni 0, ni 0]
noncomputable def fZ (f : FM) : F_ := .eqa 83 (whV f) z5 _ (EqA.arr (P := PP) (T := 83) (n := 5) (by kernel_rfl) (xs := wh f) (ys := [0, 0, 0, 0, 0]) rfl rfl)
def FBits (k : Nat) (f : FM) : Prop := ∀ n ∈ nu f, Bn k n
theorem e_fits (hb : FBits k f) (hk : 1 ≤ k ∧ k ≤ 100000) (nd : Bool) : Pure PP 60 [.ag (dF f), bo nd] (bo (fitsB f nd)) := by
 have hany := e_idxRC (G := 89) (c0 := [bo nd]) (bad := badR nd) (nu f) (fun n hn => e_fits1 (hb n hn) hk)
 cases hB : (nu f).any (badR nd) with
 | true =>
  rw [hB] at hany
  rw [show fitsB f nd = false from by unfold fitsB; rw [hB]; rfl]
  exact tr [cl (e_numbersC f), .arr, cl hany, yt] (by kernel_rfl)
 | false =>
  rw [hB] at hany
  cases nd with
  | false =>
   rw [show fitsB f false = decide (wh f = [0, 0, 0, 0, 0]) from by unfold fitsB; rw [hB]; rfl]
   exact tr [cl (e_numbersC f), .arr, cl hany, nf, yt, cl (e_whole f), fZ f] (by kernel_rfl)
  | true =>
   rw [show fitsB f true = needB f from by unfold fitsB; rw [hB]; rfl]
   obtain ⟨g, rfl⟩ := all_ok hB
   have b0 := (hb (ofR g.r0) (by simp [nu, FQ.fm])).bq hk.1
   have b1 := (hb (ofR g.r1) (by simp [nu, FQ.fm])).bq hk.1
   have b2 := (hb (ofR g.r2) (by simp [nu, FQ.fm])).bq hk.1
   have b3 := (hb (ofR g.r3) (by simp [nu, FQ.fm])).bq hk.1
   have b4 := (hb (ofR g.r4) (by simp [nu, FQ.fm])).bq hk.1
   have b5 := (hb (ofR g.r5) (by simp [nu, FQ.fm])).bq hk.1
   have hN : needB g.fm = (decide (g.a ≥ 0) && decide (g.a < g.b) && decide (g.b < 12) && edgeB g.ea && edgeB g.eb && edgeB g.many && decide (g.many > 0) && oneB g.r0 g.r1 && decide (cmpQ g.r2 g.r4 ≤ 0) && decide (cmpQ g.r3 g.r5 ≤ 0)) := by simp only [needB, FQ.fm, q_ofR]; rfl
   rw [hN]
   cases h1 : (decide (g.a ≥ 0) : Bool) with
   | true =>
     cases h2 : (decide (g.a < g.b) : Bool) with
     | true =>
       cases h3 : (decide (g.b < 12) : Bool) with
       | true =>
         cases h4 : (edgeB g.ea : Bool) with
         | true =>
           cases h5 : (edgeB g.eb : Bool) with
           | true =>
             cases h6 : (edgeB g.many : Bool) with
             | true =>
               cases h7 : (decide (g.many > 0) : Bool) with
               | true =>
                 cases h8 : (oneB g.r0 g.r1 : Bool) with
                 | true =>
                   cases h9 : (decide (cmpQ g.r2 g.r4 ≤ 0) : Bool) with
                   | true =>
                     exact tr [cl (e_numbersC g.fm), .arr, cl hany, nf, nf, ye (t := decide (g.a ≥ 0)) h1, ye (t := decide (g.a < g.b)) h2, ye (t := decide (g.b < 12)) h3, cl (e_edge g.ea), ye (t := edgeB g.ea) h4, cl (e_edge g.eb), ye (t := edgeB g.eb) h5, cl (e_edge g.many), ye (t := edgeB g.many) h6, ye (t := decide (g.many > 0)) h7, cl (e_tvalid b0 b1 hk.2), ye (t := oneB g.r0 g.r1) h8, cl (e_rcmp b2 b4 (by omega)), ye (t := decide (cmpQ g.r2 g.r4 ≤ 0)) h9, cl (e_rcmp b3 b5 (by omega))] (by kernel_rfl)
                   | false =>
                     exact tr [cl (e_numbersC g.fm), .arr, cl hany, nf, nf, ye (t := decide (g.a ≥ 0)) h1, ye (t := decide (g.a < g.b)) h2, ye (t := decide (g.b < 12)) h3, cl (e_edge g.ea), ye (t := edgeB g.ea) h4, cl (e_edge g.eb), ye (t := edgeB g.eb) h5, cl (e_edge g.many), ye (t := edgeB g.many) h6, ye (t := decide (g.many > 0)) h7, cl (e_tvalid b0 b1 hk.2), ye (t := oneB g.r0 g.r1) h8, cl (e_rcmp b2 b4 (by omega)), na (t := decide (cmpQ g.r2 g.r4 ≤ 0)) h9] (by kernel_rfl)
                 | false =>
                   exact tr [cl (e_numbersC g.fm), .arr, cl hany, nf, nf, ye (t := decide (g.a ≥ 0)) h1, ye (t := decide (g.a < g.b)) h2, ye (t := decide (g.b < 12)) h3, cl (e_edge g.ea), ye (t := edgeB g.ea) h4, cl (e_edge g.eb), ye (t := edgeB g.eb) h5, cl (e_edge g.many), ye (t := edgeB g.many) h6, ye (t := decide (g.many > 0)) h7, cl (e_tvalid b0 b1 hk.2), na (t := oneB g.r0 g.r1) h8, nf] (by kernel_rfl)
               | false =>
                 exact tr [cl (e_numbersC g.fm), .arr, cl hany, nf, nf, ye (t := decide (g.a ≥ 0)) h1, ye (t := decide (g.a < g.b)) h2, ye (t := decide (g.b < 12)) h3, cl (e_edge g.ea), ye (t := edgeB g.ea) h4, cl (e_edge g.eb), ye (t := edgeB g.eb) h5, cl (e_edge g.many), ye (t := edgeB g.many) h6, na (t := decide (g.many > 0)) h7, nf, nf] (by kernel_rfl)
             | false =>
               exact tr [cl (e_numbersC g.fm), .arr, cl hany, nf, nf, ye (t := decide (g.a ≥ 0)) h1, ye (t := decide (g.a < g.b)) h2, ye (t := decide (g.b < 12)) h3, cl (e_edge g.ea), ye (t := edgeB g.ea) h4, cl (e_edge g.eb), ye (t := edgeB g.eb) h5, cl (e_edge g.many), na (t := edgeB g.many) h6, nf, nf, nf] (by kernel_rfl)
           | false =>
             exact tr [cl (e_numbersC g.fm), .arr, cl hany, nf, nf, ye (t := decide (g.a ≥ 0)) h1, ye (t := decide (g.a < g.b)) h2, ye (t := decide (g.b < 12)) h3, cl (e_edge g.ea), ye (t := edgeB g.ea) h4, cl (e_edge g.eb), na (t := edgeB g.eb) h5, nf, nf, nf, nf] (by kernel_rfl)
         | false =>
           exact tr [cl (e_numbersC g.fm), .arr, cl hany, nf, nf, ye (t := decide (g.a ≥ 0)) h1, ye (t := decide (g.a < g.b)) h2, ye (t := decide (g.b < 12)) h3, cl (e_edge g.ea), na (t := edgeB g.ea) h4, nf, nf, nf, nf, nf] (by kernel_rfl)
       | false =>
         exact tr [cl (e_numbersC g.fm), .arr, cl hany, nf, nf, ye (t := decide (g.a ≥ 0)) h1, ye (t := decide (g.a < g.b)) h2, na (t := decide (g.b < 12)) h3, nf, nf, nf, nf, nf, nf] (by kernel_rfl)
     | false =>
       exact tr [cl (e_numbersC g.fm), .arr, cl hany, nf, nf, ye (t := decide (g.a ≥ 0)) h1, na (t := decide (g.a < g.b)) h2, nf, nf, nf, nf, nf, nf, nf] (by kernel_rfl)
   | false =>
     exact tr [cl (e_numbersC g.fm), .arr, cl hany, nf, nf, na (t := decide (g.a ≥ 0)) h1, nf, nf, nf, nf, nf, nf, nf, nf] (by kernel_rfl)
end
end Go.Proofs.YthliihpeodohpaaGreatDoor.E.Ca
