/- tietze.Eliminate; tietze.Eliminate: the image; tietze.Eliminate: what is handed to Clean is a presentation (plain); slices.Clone at lists of words; The law's helpers: words, equal, numbers; slices.Delete of one number; tietze.shorter. -/
import Derived.Test.YtmmbmhjdnlmedaaTsCS13
import Derived.Test.YtmmbmhjdnlmedaaTsCS6
import Derived.Test.YtmmbmhjdnlmedaaTsCS4
import Derived.Test.YtmmbmhjdnlmedaaTsCS5
import Derived.Test.YtmmbmhjdnlmedaaTsCS3
import Derived.Shelf.Slices.Delete
import Derived.Shelf.Lay
import Derived.Ground.Names2Prog
namespace Go.Proofs
open Go.RowKit Go.Shelf Go.Lib Go.Sort Go.Proofs.Ct Go.Proofs.Tz Go.Maps
theorem call22 (args : Array Value) (w : World) : (callFunc 22 args).run Try.prog w = .ok (.enter 22 args) w := enters_of Try.func22 (by kernel_rfl) rfl args w
theorem call21 (args : Array Value) (w : World) : (callFunc 21 args).run Try.prog w = .ok (.enter 21 args) w := enters_of Try.func21 (by kernel_rfl) rfl args w
/-- what an elimination answers -/
def ElimPost (n : Nat) (rels : List (List Int)) (rel gen : Nat) (w : World) (e : Ending) (w' : World) : Prop :=
  (match elimE n rels rel gen with
  | .inr x => e = .returned (.tuple #[.agg #[.int .i64 0, .slice none 0 0], .slice none 0 0, .int .i64 x])
  | .inl (l, im) => ∃ A c F B d G, e = .returned (.tuple #[.agg #[.int .i64 ((n : Int) - 1), .slice A l.length c], .slice B im.length d, .int .i64 0]) ∧ OutSt 24 F w w' (.slice A l.length c) l ∧ OutSt 24 G w w' (.slice B im.length d) im) ∧ Below w.heap.size w w'
theorem results_27 {fn : Func} {p q r : Tmp} (h : fn.results = #[.cell p 27, .tmp q, .tmp r]) (tmps : Array Value) (w : World) (g : Nat) (cs : Array Value) (u v : Value)
    (hp : tmps.getD p undef = .pointer (some ⟨g, 0, none⟩)) (hq : tmps.getD q undef = u) (hr : tmps.getD r undef = v) (hg : w.heap[g]? = some (.cells cs 27 (0, 0))) (hs : cs.size = 2) :
    (results fn tmps).run Try.prog w = .ok (.tuple #[.agg cs, u, v]) w := by
  have hp' : tmps[p]?.getD undef = .pointer (some ⟨g, 0, none⟩) := by simpa using hp
  have hq' : tmps[q]?.getD undef = u := by simpa using hq
  have hr' : tmps[r]?.getD undef = v := by simpa using hr
  simp [results, h, hp', hq', hr', asAddr, run_loadVar_row w g 27 27 cs (0, 0) _ hg Try.underlying27 rfl (by rw [hs]; exact info40s)]
/-- the two boxes of the call -/
structure ElBox (w w0 : World) (n : Nat) (Ar : Option Addr) (cr m : Nat) : Prop where
  below : Below w.heap.size w w0
  size : w0.heap.size = w.heap.size + 2
  arg : w0.heap[w.heap.size]? = some (.cells #[.int .i64 (n : Int), .slice Ar m cr] 27 (0, 0))
  res : w0.heap[w.heap.size + 1]? = some (.cells zero40 27 (0, 0))
theorem ElBox.at_ {w w0 W : World} {n m cr : Nat} {Ar : Option Addr} (h : ElBox w w0 n Ar cr m) (hb : Below w0.heap.size w0 W) :
    (W.cell? ⟨w.heap.size, 0, none⟩ = some (.int .i64 (n : Int)) ∧ W.cell? ⟨w.heap.size, 1, none⟩ = some (.slice Ar m cr)) ∧ W.heap[w.heap.size]? = some (.cells #[.int .i64 (n : Int), .slice Ar m cr] 27 (0, 0)) ∧ W.heap[w.heap.size + 1]? = some (.cells zero40 27 (0, 0)) := by
  have h1 := (hb.block _ (Array.getElem?_eq_some_iff.1 h.arg).1).trans h.arg
  have h2 := (hb.block _ (Array.getElem?_eq_some_iff.1 h.res).1).trans h.res
  exact ⟨cell_of2 h1, h1, h2⟩
theorem ElBox.new (w : World) (n : Nat) (Ar : Option Addr) (cr m : Nat) : ElBox w ((w.alloc (.cells #[.int .i64 (n : Int), .slice Ar m cr] 27)).alloc (.cells zero40 27)) n Ar cr m := by
  refine ⟨((Below.refl _ _).alloc (Nat.le_refl _) _).alloc (by simp) _, by simp, ?_, ?_⟩
  · exact (Below.heap_alloc (w.alloc _) _ w.heap.size (by simp)).trans (heap_alloc_new w _)
  · have := heap_alloc_new (w.alloc (.cells #[.int .i64 (n : Int), .slice Ar m cr] 27)) (.cells zero40 27); rwa [World.size_alloc] at this
set_option maxRecDepth 100000 in
set_option maxHeartbeats 4000000 in
/-- no elimination: the generator does not occur once, or is the only one -/
theorem elim6_no (w : World) (vr : Value) (n : Nat) (rels : List (List Int)) (rel gen : Nat) (hR : Tab w vr rels) (he : presE n rels = 0) (hr : rel < rels.length) (hg : 1 ≤ gen ∧ gen ≤ n) (hno : n = 1 ∨ onceW (rels.getD rel []) gen = none) : Calls Try.prog 6 #[.agg #[.int .i64 (n : Int), vr], .int .i64 (rel : Int), .int .i64 (gen : Int)] w (ElimPost n rels rel gen w) := by
  obtain ⟨Ar, cr, rfl⟩ := Tab.form hR
  have H19 : Hid (∀ W, Tab W (.slice Ar rels.length cr) rels → Calls Try.prog 19 #[.agg #[.int .i64 (n : Int), .slice Ar rels.length cr]] W fun e w' => (∃ y, e = .returned (.tuple #[.int .i64 0, .int .i64 y])) ∧ Below W.heap.size W w') := Lib.hid fun W h => by
    have := pcheck78_any W _ (n : Int) rels h
    unfold PresPost at this
    rw [he] at this
    exact this
  obtain ⟨gn, hgn, hg1, hg2, hln, -⟩ := presE_good he
  obtain rfl : n = gn := by omega
  clear hgn
  have hE : elimE n rels rel gen = .inr 13 := by
    unfold elimE
    cases ho : onceW (rels.getD rel []) gen with
    | none => rfl
    | some k =>
      rcases hno with h | h
      · simp [h]
      · rw [ho] at h; cases h
  have HE := Lib.hid hE
  have HN := Lib.hid hno
  have HBN := Lib.hid (ElBox.new w n Ar cr rels.length)
  have HRR := Lib.hid hR
  have hr0 : (0 : Int) ≤ (rel : Int) := Int.natCast_nonneg _
  have hrl : (rel : Int) < (rels.length : Int) := by omega
  have hrd : decide ((rel : Int) < 0) = false := decide_eq_false (by omega)
  have hrd2 : decide ((rels.length : Int) ≤ (rel : Int)) = false := decide_eq_false (by omega)
  have hgd : decide ((gen : Int) < 1) = false := decide_eq_false (by omega)
  have hgd2 : decide ((n : Int) < (gen : Int)) = false := decide_eq_false (by omega)
  clear hR he hE hno
  by_cases hn1 : n = 1
  · have hbn : ((n : Int) == 1) = true := by rw [hn1]; rfl
    have HOI := Lib.hid hn1
    clear hn1
    go_enter Try.func6, Try.ntmps6
    go_wp2_with ((with_reducible refine wpList_sel 6 ?_); refine wpList_val rfl (r_alloc40 rfl) ?_)
    generalize hw0 : (w.alloc (.cells #[.int .i64 (n : Int), .slice Ar rels.length cr] 27)).alloc (.cells zero40 27) = w0 at *
    have HBX := Lib.hid fun W (hb : Below w0.heap.size w0 W) => HBN.out.at_ hb
    have HB0 := Lib.hid HBN.out.below
    have HBP := Lib.hid HBN.out.arg
    have HR0 := Lib.hid (kept_tab.below HRR.out HB0.out)
    clear hw0 HRR
    go_wp2_with (first
      | ((with_reducible refine wpList_sel 20 ?_); refine wpList_val rfl (r_loadAt 27 (.tmp 3) _ _ rfl rfl (load40 HBP.out)) ?_)
      | (go_at_call 19; (with_reducible refine (H19.out w0 HR0.out).mono ?_); rintro e w1 ⟨⟨y, rfl⟩, hb⟩
         have HB1 := Lib.hid hb
         obtain ⟨⟨p1, q1⟩, x1, x2⟩ := HBX.out _ hb
         have hR1 := kept_tab.below HR0.out hb
         obtain ⟨A', c', e', t1, t2, t3⟩ := hR1.open_
         injection e' with e1 _ e3
         subst e1 e3
         obtain ⟨b, o, rfl, hcc⟩ := t3 (by omega)
         obtain ⟨u, hu, hI⟩ := hcc rel hr
         obtain ⟨Au, cu, rfl, -⟩ := hI.open_
         have HO := Lib.hid (once20_any w1 _ _ (gen : Int) (by omega) hI)
         have HX2 := Lib.hid x2
         clear x1 x2 hb hR1 t1 t2 t3 hcc hI
         generalize (rels.getD rel []).length = lx at *)
      | (go_at_call 20
         refine HO.out.mono ?_
         rintro e w2 ⟨rfl, hb2⟩
         have HB2 := Lib.hid (HB1.out.trans (hb2.mono HB1.out.size))
         obtain ⟨⟨p2, q2⟩, x1, x2⟩ := HBX.out _ HB2.out
         have HX3 := Lib.hid x2
         clear p1 q1 x1 x2 hu hb2 HO
         first | rw [HOI.out] | generalize onceI (rels.getD rel []) gen = oi at *)
      | ((with_reducible refine wpList_sel 63 ?_); refine wpList_val rfl (r_build40 rfl) ?_; refine wpList_skip rfl (r_store40 (.tmp 6) (.tmp 63) rfl (w.heap.size + 1) zero40 zero40 rfl rfl HX3.out rfl rfl zero40_one) ?_))
    try simp only [Exit.inBlock, Exit.then]
    exact bodyPost_ret (results_27 (p := 6) (q := 7) (r := 8) rfl _ _ (w.heap.size + 1) zero40 (.slice none 0 0) (.int .i64 13) rfl rfl rfl (setRow_heap _ _ _ _ _ _ HX3.out) rfl) rfl ⟨by rw [HE.out]; rfl, below_setRow (HB0.out.trans (HB2.out.mono HB0.out.size)) (Nat.le_succ _) _⟩
  · have hbn : ((n : Int) == 1) = false := beq_eq_false_iff_ne.2 (by omega)
    have HOI : Hid (onceI (rels.getD rel []) gen = -1) := Lib.hid (by
      have h := HN.out.resolve_left hn1
      unfold onceI
      rw [h])
    clear hn1
    go_enter Try.func6, Try.ntmps6
    go_wp2_with ((with_reducible refine wpList_sel 6 ?_); refine wpList_val rfl (r_alloc40 rfl) ?_)
    generalize hw0 : (w.alloc (.cells #[.int .i64 (n : Int), .slice Ar rels.length cr] 27)).alloc (.cells zero40 27) = w0 at *
    have HBX := Lib.hid fun W (hb : Below w0.heap.size w0 W) => HBN.out.at_ hb
    have HB0 := Lib.hid HBN.out.below
    have HBP := Lib.hid HBN.out.arg
    have HR0 := Lib.hid (kept_tab.below HRR.out HB0.out)
    clear hw0 HRR
    go_wp2_with (first
      | ((with_reducible refine wpList_sel 20 ?_); refine wpList_val rfl (r_loadAt 27 (.tmp 3) _ _ rfl rfl (load40 HBP.out)) ?_)
      | (go_at_call 19; (with_reducible refine (H19.out w0 HR0.out).mono ?_); rintro e w1 ⟨⟨y, rfl⟩, hb⟩
         have HB1 := Lib.hid hb
         obtain ⟨⟨p1, q1⟩, x1, x2⟩ := HBX.out _ hb
         have hR1 := kept_tab.below HR0.out hb
         obtain ⟨A', c', e', t1, t2, t3⟩ := hR1.open_
         injection e' with e1 _ e3
         subst e1 e3
         obtain ⟨b, o, rfl, hcc⟩ := t3 (by omega)
         obtain ⟨u, hu, hI⟩ := hcc rel hr
         obtain ⟨Au, cu, rfl, -⟩ := hI.open_
         have HO := Lib.hid (once20_any w1 _ _ (gen : Int) (by omega) hI)
         have HX2 := Lib.hid x2
         clear x1 x2 hb hR1 t1 t2 t3 hcc hI
         generalize (rels.getD rel []).length = lx at *)
      | (go_at_call 20
         refine HO.out.mono ?_
         rintro e w2 ⟨rfl, hb2⟩
         have HB2 := Lib.hid (HB1.out.trans (hb2.mono HB1.out.size))
         obtain ⟨⟨p2, q2⟩, x1, x2⟩ := HBX.out _ HB2.out
         have HX3 := Lib.hid x2
         clear p1 q1 x1 x2 hu hb2 HO
         first | rw [HOI.out] | generalize onceI (rels.getD rel []) gen = oi at *)
      | ((with_reducible refine wpList_sel 63 ?_); refine wpList_val rfl (r_build40 rfl) ?_; refine wpList_skip rfl (r_store40 (.tmp 6) (.tmp 63) rfl (w.heap.size + 1) zero40 zero40 rfl rfl HX3.out rfl rfl zero40_one) ?_))
    try simp only [Exit.inBlock, Exit.then]
    exact bodyPost_ret (results_27 (p := 6) (q := 7) (r := 8) rfl _ _ (w.heap.size + 1) zero40 (.slice none 0 0) (.int .i64 13) rfl rfl rfl (setRow_heap _ _ _ _ _ _ HX3.out) rfl) rfl ⟨by rw [HE.out]; rfl, below_setRow (HB0.out.trans (HB2.out.mono HB0.out.size)) (Nat.le_succ _) _⟩
end Go.Proofs
namespace Go.Proofs
open Go.RowKit Go.Shelf Go.Lib Go.Sort Go.Proofs.Ct Go.Proofs.Tz Go.Maps
/-- what a slot of the region holds -/
inductive SlE where
  | eq (v : Value) | ints (l : List Int)
def SlE.holds : SlE → Value → World → Prop
  | .eq u, v, _ => v = u
  | .ints l, v, w => ∃ A c, v = .slice A l.length c ∧ IntsAt w v l
theorem SlE.keep {s : SlE} {v : Value} {w w' : World} (h : Below w.heap.size w w') : s.holds v w → s.holds v w' := by
  cases s with
  | eq u => exact id
  | ints l => exact fun ⟨A, c, e, k⟩ => ⟨A, c, e, k.below h⟩
theorem r_add1 {o : Oper} {a : Act} {w : World} (x : Operand) (k : Nat) (ho : o.op = .binOp .add 3 x (.const (.int .i64 1)) 3) (hx : a.eval x = .int .i64 (k : Int)) (hk : k ≤ 1000000) : (execOp a.eval o).run Try.prog w = .ok (.value (.int .i64 ((k + 1 : Nat) : Int))) w := by
  have hw : IntKind.i64.wrap ((k : Int) + 1) = ((k + 1 : Nat) : Int) := by simp [IntKind.wrap, IntKind.bits, IntKind.signed]; omega
  have hc : a.eval (.const (.int .i64 1)) = .int .i64 1 := rfl
  unfold execOp
  simp only [ho, hx, hc]
  simp [go_sem, hw]
theorem once_lt {x : List Int} {g : Int} {k : Nat} (h : onceW x g = some k) : k < x.length := by
  unfold onceW at h
  split at h
  · rename_i hc
    obtain rfl := Option.some.inj h
    rw [List.findIdx_lt_length]
    have : 0 < x.countP (isG g) := by omega
    exact List.countP_pos_iff.1 this
  · cases h
set_option maxRecDepth 100000 in
set_option maxHeartbeats 4000000 in
/-- the image is too long -/
theorem elim6_long (w : World) (vr : Value) (n : Nat) (rels : List (List Int)) (rel gen k : Nat) (hR : Tab w vr rels) (he : presE n rels = 0) (hr : rel < rels.length) (hg : 1 ≤ gen ∧ gen ≤ n) (hn1 : n ≠ 1) (hon : onceW (rels.getD rel []) gen = some k) (hlong : 1000 < (imgW (rels.getD rel []) k).length) : Calls Try.prog 6 #[.agg #[.int .i64 (n : Int), vr], .int .i64 (rel : Int), .int .i64 (gen : Int)] w (ElimPost n rels rel gen w) := by
  obtain ⟨Ar, cr, rfl⟩ := Tab.form hR
  have H19 : Hid (∀ W, Tab W (.slice Ar rels.length cr) rels → Calls Try.prog 19 #[.agg #[.int .i64 (n : Int), .slice Ar rels.length cr]] W fun e w' => (∃ y, e = .returned (.tuple #[.int .i64 0, .int .i64 y])) ∧ Below W.heap.size W w') := Lib.hid fun W h => by
    have := pcheck78_any W _ (n : Int) rels h
    unfold PresPost at this
    rw [he] at this
    exact this
  obtain ⟨gn, hgn, hg1, hg2, hln, hall⟩ := presE_good he
  obtain rfl : n = gn := by omega
  clear hgn
  have hE : elimE n rels rel gen = .inr 4 := by
    unfold elimE
    rw [hon]
    simp only [if_neg hn1, if_pos hlong]
  have HE := Lib.hid hE
  have hmr : ∀ z ∈ rels.getD rel [], Mild z := mild_ok (by omega) (hall rel hr).1
  have HMR := Lib.hid hmr
  have hlr := (hall rel hr).2
  have hkr : k < (rels.getD rel []).length := once_lt hon
  have HOI : Hid (onceI (rels.getD rel []) gen = k) := Lib.hid (by unfold onceI; rw [hon])
  have HLONG := Lib.hid hlong
  have H22 : Hid (∀ W u (x : List Int), IntsAt W u x → (∀ z ∈ x, Mild z) → x.length ≤ 1000000 → Calls Try.prog 22 #[u] W fun e w'' => ∃ v, e = .returned v ∧ ((∃ A c, v = .slice A (invW x).length c ∧ IntsAt w'' v (invW x)) ∧ Below W.heap.size W w'')) := Lib.hid fun W u x h1 h2 h3 => (invert72_any W u x h1 h2 (by omega)).mono fun e w'' ⟨A, c, e1, h4, h5⟩ => ⟨_, e1, ⟨A, c, rfl, OwnI.ints h4 (Mild.fits fun z hz => mild_inv' h2 z (Ct.red_mem hz))⟩, h5⟩
  have H21 : Hid (∀ W u v (x y : List Int), IntsAt W u x → IntsAt W v y → (∀ z ∈ x, Mild z) → (∀ z ∈ y, Mild z) → x.length + y.length ≤ 1000000 → Calls Try.prog 21 #[u, v] W fun e w'' => ∃ v, e = .returned v ∧ ((∃ A c, v = .slice A (mulW x y).length c ∧ IntsAt w'' v (mulW x y)) ∧ Below W.heap.size W w'')) := Lib.hid fun W u v x y h1 h2 h3 h4 h5 => (mul41_any W u v x y h1 h2 h3 h4 (by omega)).mono fun e w'' ⟨A, c, e1, h6, h7⟩ => ⟨_, e1, ⟨A, c, rfl, OwnI.ints h6 (Mild.fits fun z hz => mild_app h3 h4 z (Ct.red_mem hz))⟩, h7⟩
  have HBN := Lib.hid (ElBox.new w n Ar cr rels.length)
  have HRR := Lib.hid hR
  have hr0 : (0 : Int) ≤ (rel : Int) := Int.natCast_nonneg _
  have hrl : (rel : Int) < (rels.length : Int) := by omega
  have hrd : decide ((rel : Int) < 0) = false := decide_eq_false (by omega)
  have hrd2 : decide ((rels.length : Int) ≤ (rel : Int)) = false := decide_eq_false (by omega)
  have hgd : decide ((gen : Int) < 1) = false := decide_eq_false (by omega)
  have hgd2 : decide ((n : Int) < (gen : Int)) = false := decide_eq_false (by omega)
  have hbn : ((n : Int) == 1) = false := beq_eq_false_iff_ne.2 (by omega)
  have hk0 : (0 : Int) ≤ (k : Int) := Int.natCast_nonneg _
  have hkd : decide ((k : Int) < 0) = false := decide_eq_false (by omega)
  clear hR he hE hn1 hon hall hmr hlong
  have HIM : Hid (imgW (rels.getD rel []) k = if (rels.getD rel []).getD k 0 < 0 then invW (mulW (invW ((rels.getD rel []).take k)) (invW ((rels.getD rel []).drop (k + 1)))) else mulW (invW ((rels.getD rel []).take k)) (invW ((rels.getD rel []).drop (k + 1)))) := Lib.hid rfl
  have HLT : Hid (((rels.getD rel []).take k).length ≤ 1000000) := Lib.hid (by rw [List.length_take]; omega)
  have HLD : Hid (((rels.getD rel []).drop (k + 1)).length ≤ 1000000) := Lib.hid (by rw [List.length_drop]; omega)
  have HM1 : Hid (∀ z ∈ invW ((rels.getD rel []).take k), Mild z) := Lib.hid fun z hz => mild_inv' (fun y hy => HMR.out y (List.mem_of_mem_take hy)) z (Ct.red_mem hz)
  have HM2 : Hid (∀ z ∈ invW ((rels.getD rel []).drop (k + 1)), Mild z) := Lib.hid fun z hz => mild_inv' (fun y hy => HMR.out y (List.mem_of_mem_drop hy)) z (Ct.red_mem hz)
  have HL12 : Hid ((invW ((rels.getD rel []).take k)).length + (invW ((rels.getD rel []).drop (k + 1))).length ≤ 1000000) := Lib.hid (by
    have h1 := red_length (inv ((rels.getD rel []).take k))
    have h2 := red_length (inv ((rels.getD rel []).drop (k + 1)))
    rw [length_inv, List.length_take] at h1
    rw [length_inv, List.length_drop] at h2
    unfold invW
    omega)
  have HMV : Hid (∀ z ∈ mulW (invW ((rels.getD rel []).take k)) (invW ((rels.getD rel []).drop (k + 1))), Mild z) := Lib.hid fun z hz => mild_app HM1.out HM2.out z (Ct.red_mem hz)
  have HLV : Hid ((mulW (invW ((rels.getD rel []).take k)) (invW ((rels.getD rel []).drop (k + 1)))).length ≤ 1000000) := Lib.hid (by
    have h1 := red_length (invW ((rels.getD rel []).take k) ++ invW ((rels.getD rel []).drop (k + 1)))
    rw [List.length_append] at h1
    have := HL12.out
    unfold mulW
    omega)
  go_enter Try.func6, Try.ntmps6
  go_wp2_with ((with_reducible refine wpList_sel 6 ?_); refine wpList_val rfl (r_alloc40 rfl) ?_)
  generalize hw0 : (w.alloc (.cells #[.int .i64 (n : Int), .slice Ar rels.length cr] 27)).alloc (.cells zero40 27) = w0 at *
  have HBX := Lib.hid fun W (hb : Below w0.heap.size w0 W) => HBN.out.at_ hb
  have HB0 := Lib.hid HBN.out.below
  have HBP := Lib.hid HBN.out.arg
  have HR0 := Lib.hid (kept_tab.below HRR.out HB0.out)
  clear hw0 HRR
  go_wp2_with (first
    | ((with_reducible refine wpList_sel 20 ?_); refine wpList_val rfl (r_loadAt 27 (.tmp 3) _ _ rfl rfl (load40 HBP.out)) ?_)
    | (go_at_call 19; (with_reducible refine (H19.out w0 HR0.out).mono ?_); rintro e w1 ⟨⟨y, rfl⟩, hb⟩
       have HB1 := Lib.hid hb
       obtain ⟨⟨p1, q1⟩, x1, x2⟩ := HBX.out _ hb
       have hR1 := kept_tab.below HR0.out hb
       obtain ⟨A', c', e', t1, t2, t3⟩ := hR1.open_
       injection e' with e1 _ e3
       subst e1 e3
       obtain ⟨b, o, rfl, hcc⟩ := t3 (by omega)
       obtain ⟨u, hu, hI⟩ := hcc rel hr
       obtain ⟨Au, cu, rfl, u1, u2, u3⟩ := hI.open_
       obtain ⟨bu, ou, rfl, hcu⟩ := u3 (by omega)
       have HCU := Lib.hid (hcu k hkr)
       have HI := Lib.hid hI
       obtain ⟨A1, hs1, hi1⟩ := ints_cut hI (k := 0) (h := k) (by omega) (by omega)
       obtain ⟨A2, hs2, hi2⟩ := ints_cut hI (k := k + 1) (h := (rels.getD rel []).length) (by omega) (Nat.le_refl _)
       rw [List.take_length] at hi2
       rw [List.drop_zero] at hi1
       simp only [Nat.sub_zero] at hs1 hi1
       have hkc : k ≤ cu := by omega
       have hkx : k + 1 ≤ (rels.getD rel []).length := hkr
       have HS1 := Lib.hid hs1
       have HS2 := Lib.hid hs2
       have HI1 := Lib.hid hi1
       have HI2 := Lib.hid hi2
       have HO := Lib.hid (once20_any w1 _ _ (gen : Int) (by omega) hI)
       have HX2 := Lib.hid x2
       clear x1 x2 hb hR1 t1 t2 t3 hcc hI u2 u3 hcu hs1 hs2 hi1 hi2
       generalize (rels.getD rel []).length = lx at *)
    | (go_at_call 20
       refine HO.out.mono ?_
       rintro e w2 ⟨rfl, hb2⟩
       rw [HOI.out]
       have HB2 := Lib.hid (HB1.out.trans (hb2.mono HB1.out.size))
       have HB12 := Lib.hid hb2
       obtain ⟨⟨p2, q2⟩, x1, x2⟩ := HBX.out _ HB2.out
       clear p1 q1 hu hb2 HO x1 x2))
  refine (wpIn_wide (n := 3)).1 ?_
  refine wpIn_region_all (by kernel_rfl) 11 rfl (fun i => if i < 10 then some (64 + i) else some 13) (lex_of (by kernel_rfl)) (fun _ W => Below w1.heap.size w1 W)
    (fun i v W => (([.eq (.slice (some ⟨bu, ou, none⟩) lx cu), .eq (.int .i64 (k : Int)), .eq (.slice A1 k cu), .ints (invW ((rels.getD rel []).take k)), .eq (.slice (some ⟨bu, ou, none⟩) lx cu), .eq (.int .i64 (k : Int)), .eq (.int .i64 ((k + 1 : Nat) : Int)), .eq (.slice A2 (lx - (k + 1)) (cu - (k + 1))), .ints (invW ((rels.getD rel []).drop (k + 1))), .ints (mulW (invW ((rels.getD rel []).take k)) (invW ((rels.getD rel []).drop (k + 1)))), .ints (mulW (invW ((rels.getD rel []).take k)) (invW ((rels.getD rel []).drop (k + 1))))] : List SlE).getD i (.eq undef)).holds v W)
    (fun _ W W' => Below W.heap.size W W') (dm_inj (by kernel_rfl)) (fun i j v W W' _ _ _ h => SlE.keep h) (dm_lt (n := 145) (by kernel_rfl)) (HB12.out.trans ((Below.refl w2.heap.size w2).drew.mono HB12.out.size)) ?_ ?_
  · intro ls q o a w3 hq ho hS hls hcl hP hpre
    have hcases : q = 0 ∨ q = 1 ∨ q = 2 ∨ q = 3 ∨ q = 4 ∨ q = 5 ∨ q = 6 ∨ q = 7 ∨ q = 8 ∨ q = 9 ∨ q = 10 := by
      have : q < 11 := hq
      omega
    rcases hcases with rfl | rfl | rfl | rfl | rfl | rfl | rfl | rfl | rfl | rfl | rfl
    · obtain rfl := Option.some.inj ho
      exact wpOpIn_of rfl rfl (wpW_val (r_move (.tmp 11) rfl (hP.out 11 (dm_out (by kernel_rfl)))) ⟨_, rfl, hS, Below.refl _ _, (fun h => by simp at h), rfl⟩)
    · obtain rfl := Option.some.inj ho
      exact wpOpIn_of rfl rfl (wpW_val (r_move (.tmp 12) rfl (hP.out 12 (dm_out (by kernel_rfl)))) ⟨_, rfl, hS, Below.refl _ _, (fun h => by simp at h), rfl⟩)
    · obtain rfl := Option.some.inj ho
      exact wpOpIn_of rfl rfl (wpW_val ((run_sl_hi under24w size24w (.tmp 64) (.tmp 65) (some ⟨bu, ou, none⟩) lx cu k rfl (hpre ⟨0, .data⟩ (by simp) rfl).2 (hpre ⟨1, .data⟩ (by simp) rfl).2 hkc).trans (congrArg (fun v => Result.ok (Next.value v) _) HS1.out)) ⟨_, rfl, hS, Below.refl _ _, (fun h => by simp at h), rfl⟩)
    · obtain rfl := Option.some.inj ho
      exact wpOpIn_of rfl rfl (wpW_call (r_call1 (.tmp 66) _ _ rfl (hpre ⟨2, .data⟩ (by simp) rfl).2 call22) (H22.out w3 _ _ (HI1.out.below hS) (fun z hz => HMR.out z (List.mem_of_mem_take hz)) HLT.out) fun v w4 hR => ⟨v, rfl, hS.trans (hR.2.mono hS.size), hR.2, (fun h => by simp at h), hR.1⟩)
    · obtain rfl := Option.some.inj ho
      exact wpOpIn_of rfl rfl (wpW_val (r_move (.tmp 11) rfl (hP.out 11 (dm_out (by kernel_rfl)))) ⟨_, rfl, hS, Below.refl _ _, (fun h => by simp at h), rfl⟩)
    · obtain rfl := Option.some.inj ho
      exact wpOpIn_of rfl rfl (wpW_val (r_move (.tmp 12) rfl (hP.out 12 (dm_out (by kernel_rfl)))) ⟨_, rfl, hS, Below.refl _ _, (fun h => by simp at h), rfl⟩)
    · obtain rfl := Option.some.inj ho
      exact wpOpIn_of rfl rfl (wpW_val (r_add1 (.tmp 69) k rfl (hpre ⟨5, .data⟩ (by simp) rfl).2 (by omega)) ⟨_, rfl, hS, Below.refl _ _, (fun h => by simp at h), rfl⟩)
    · obtain rfl := Option.some.inj ho
      exact wpOpIn_of rfl rfl (wpW_val ((run_sl_lo under24w size24w (.tmp 68) (.tmp 70) (some ⟨bu, ou, none⟩) lx cu (k + 1) rfl (hpre ⟨4, .data⟩ (by simp) rfl).2 (hpre ⟨6, .data⟩ (by simp) rfl).2 hkx).trans (congrArg (fun v => Result.ok (Next.value v) _) HS2.out)) ⟨_, rfl, hS, Below.refl _ _, (fun h => by simp at h), rfl⟩)
    · obtain rfl := Option.some.inj ho
      exact wpOpIn_of rfl rfl (wpW_call (r_call1 (.tmp 71) _ _ rfl (hpre ⟨7, .data⟩ (by simp) rfl).2 call22) (H22.out w3 _ _ (HI2.out.below hS) (fun z hz => HMR.out z (List.mem_of_mem_drop hz)) HLD.out) fun v w4 hR => ⟨v, rfl, hS.trans (hR.2.mono hS.size), hR.2, (fun h => by simp at h), hR.1⟩)
    · obtain rfl := Option.some.inj ho
      obtain ⟨B1, d1, e1, g1⟩ := (hpre ⟨3, .data⟩ (by simp) rfl).2
      obtain ⟨B2, d2, e2, g2⟩ := (hpre ⟨8, .data⟩ (by simp) rfl).2
      exact wpOpIn_of rfl rfl (wpW_call (r_call2 (.tmp 67) (.tmp 72) _ _ _ rfl rfl rfl call21) (H21.out w3 _ _ _ _ g1 g2 HM1.out HM2.out HL12.out) fun v w4 hR => ⟨v, rfl, hS.trans (hR.2.mono hS.size), hR.2, (fun h => by simp at h), hR.1⟩)
    · obtain rfl := Option.some.inj ho
      exact wpOpIn_of rfl rfl (wpW_val (r_assign (.tmp 73) rfl rfl) ⟨_, rfl, hS, Below.refl _ _, (fun h => by simp at h), (hpre ⟨9, .data⟩ (by simp) rfl).2⟩)
  · intro ls a w3 hall hS hP hsl
    obtain ⟨A5, c5, e5, g5⟩ := hsl 10 (by decide)
    obtain ⟨vs, hvs, hfr⟩ := hP.frame 145 rfl
    have e6 : vs 13 = .slice A5 (mulW (invW ((rels.getD rel []).take k)) (invW ((rels.getD rel []).drop (k + 1)))).length c5 := (hvs 13).trans e5
    rw [e5] at g5
    have HV0 := Lib.hid g5
    have HBS := Lib.hid hS
    have HBW := Lib.hid (HB1.out.trans (hS.mono HB1.out.size))
    obtain ⟨-, x1, x2⟩ := HBX.out _ HBW.out
    have HX3 := Lib.hid x2
    have hcz := (HBS.out.cell (p := ⟨bu, ou + k, none⟩) (World.block_lt_of_cell? _ _ HCU.out)).trans HCU.out
    clear hsl hP hall hvs p2 q2 g5 hS x1 x2 e5
    subst hfr
    simp only [List.range, List.range.loop, List.map_cons, List.map_nil, List.any_cons, List.any_nil, Nat.reduceAdd, Nat.reduceBEq, Nat.reduceLT, Option.some_beq_some, Bool.or_false, if_true, if_false, List.getD_cons_zero, List.getD_cons_succ, Bool.or_true, Bool.false_eq_true]
    rw [e6]
    generalize mulW (invW ((rels.getD rel []).take k)) (invW ((rels.getD rel []).drop (k + 1))) = V0 at *
    generalize (rels.getD rel []).getD k 0 = z at *
    have hv0 : (0 : Int) ≤ (V0.length : Int) := Int.natCast_nonneg _
    have hv1 : (V0.length : Int) ≤ 1000000 := by have := HLV.out; omega
    by_cases hz : z < 0
    · have HV := Lib.hid (H22.out w3 _ V0 HV0.out HMV.out HLV.out)
      have hbig : (1000 : Int) < ((invW V0).length : Int) := by have h1 := HIM.out; rw [if_pos hz] at h1; have h2 := HLONG.out; rw [h1] at h2; omega
      go_wp2_with (first
        | (go_at_call 22; (refine HV.out.mono ?_); rintro e w4 ⟨v, rfl, ⟨A6, c6, rfl, h6⟩, hb4⟩
           have HX4 := Lib.hid (HBX.out _ (HBW.out.trans (hb4.mono HBW.out.size))).2.2
           have HB4 := Lib.hid (HBW.out.trans (hb4.mono HBW.out.size))
           clear h6 hb4)
        | ((with_reducible refine wpList_sel 84 ?_); refine wpList_val rfl (r_build40 rfl) ?_; refine wpList_skip rfl (r_store40 (.tmp 6) (.tmp 84) rfl (w.heap.size + 1) zero40 zero40 rfl rfl HX4.out rfl rfl zero40_one) ?_))
      try simp only [Exit.inBlock, Exit.then]
      exact bodyPost_ret (results_27 (p := 6) (q := 7) (r := 8) rfl _ _ (w.heap.size + 1) zero40 (.slice none 0 0) (.int .i64 4) rfl rfl rfl (setRow_heap _ _ _ _ _ _ HX4.out) rfl) rfl ⟨by rw [HE.out]; rfl, below_setRow (HB0.out.trans (HB4.out.mono HB0.out.size)) (Nat.le_succ _) _⟩
    · have hbig : (1000 : Int) < (V0.length : Int) := by have h1 := HIM.out; rw [if_neg hz] at h1; have h2 := HLONG.out; rw [h1] at h2; omega
      go_wp2_with ((with_reducible refine wpList_sel 84 ?_); refine wpList_val rfl (r_build40 rfl) ?_; refine wpList_skip rfl (r_store40 (.tmp 6) (.tmp 84) rfl (w.heap.size + 1) zero40 zero40 rfl rfl HX3.out rfl rfl zero40_one) ?_)
      try simp only [Exit.inBlock, Exit.then]
      exact bodyPost_ret (results_27 (p := 6) (q := 7) (r := 8) rfl _ _ (w.heap.size + 1) zero40 (.slice none 0 0) (.int .i64 4) rfl rfl rfl (setRow_heap _ _ _ _ _ _ HX3.out) rfl) rfl ⟨by rw [HE.out]; rfl, below_setRow (HB0.out.trans (HBW.out.mono HB0.out.size)) (Nat.le_succ _) _⟩
end Go.Proofs
namespace Go.Proofs
open Go.RowKit Go.Shelf Go.Lib Go.Sort Go.Proofs.Ct Go.Proofs.Tz Go.Maps
theorem sumTo_lenTo (l : List (List Int)) : ∀ k, k ≤ l.length → sumTo l k = lenTo l k
  | 0, _ => by unfold lenTo lenL; simp [sumTo, foldTo]
  | k + 1, hk => by rw [sumTo_succ, sumTo_lenTo l k (by omega), lenTo_succ l (by omega)]
theorem presE_of {g : Nat} {l : List (List Int)} (hg : 1 ≤ g ∧ g ≤ 16) (hl : l.length ≤ 100) (hok : ∀ w ∈ l, LOk g w) (hs : lenL l ≤ 4000) : presE (g : Int) l = 0 := by
  refine presE_none hg hl fun j hj => ?_
  have h1 : ¬ 4000 < sumTo l (j + 1) := by
    rw [sumTo_lenTo l (j + 1) (by omega)]
    have := lenTo_le l (j + 1)
    omega
  refine presBad_ok h1 ?_
  rw [List.any_eq_false]
  intro x hx
  have hm : l.getD j [] ∈ l := by rw [List.getD_eq_getElem?_getD, List.getElem?_eq_getElem hj]; exact List.getElem_mem hj
  have := hok _ hm x hx
  unfold letBad
  simp
  omega
theorem mem_getD {α : Type} {l : List (List α)} {j : Nat} {x : α} (h : x ∈ l.getD j []) : l.getD j [] ∈ l := by
  rcases Nat.lt_or_ge j l.length with hj | hj
  · rw [List.getD_eq_getElem?_getD, List.getElem?_eq_getElem hj]; exact List.getElem_mem hj
  · rw [List.getD_eq_getElem?_getD, List.getElem?_eq_none hj] at h; cases h
/-- what is known of an elimination that is made -/
structure ElimOk (n : Nat) (rels : List (List Int)) (rel gen k : Nat) : Prop where
  imgs : ∀ w ∈ imgsW n gen (imgW (rels.getD rel []) k), LOk (n - 1) w
  len : (imgW (rels.getD rel []) k).length ≤ 1000 → ∀ j, ((imgsW n gen (imgW (rels.getD rel []) k)).getD j []).length ≤ 1000
  mild : ∀ j, ∀ y ∈ (imgsW n gen (imgW (rels.getD rel []) k)).getD j [], Mild y
  rest : ∀ j, j < (rels.eraseIdx rel).length → ((rels.eraseIdx rel).getD j []).length ≤ 4000 ∧ ∀ x ∈ (rels.eraseIdx rel).getD j [], Mild x ∧ x ≠ 0 ∧ x.natAbs ≤ n
  many : (rels.eraseIdx rel).length ≤ 100
  pres : ∀ l, sbL (imgsW n gen (imgW (rels.getD rel []) k)) (rels.eraseIdx rel) = some l → lenL l ≤ 4000 → presE ((n - 1 : Nat) : Int) l = 0
theorem elim_ok {n : Nat} {rels : List (List Int)} {rel gen k : Nat} (he : presE (n : Int) rels = 0) (hr : rel < rels.length) (hg : 1 ≤ gen ∧ gen ≤ n) (hn1 : n ≠ 1) (hon : onceW (rels.getD rel []) gen = some k) : ElimOk n rels rel gen k := by
  obtain ⟨gn, hgn, hg1, hg2, hln, hall⟩ := presE_good he
  obtain rfl : n = gn := by omega
  have hI := imgs_ok hg (hall rel hr).1 hon
  have hmem : ∀ z ∈ rels.eraseIdx rel, LOk n z ∧ z.length ≤ 4000 := fun z hz => by
    obtain ⟨i, hi, rfl⟩ := List.getElem_of_mem (List.mem_of_mem_eraseIdx hz)
    have := hall i hi
    rw [List.getD_eq_getElem?_getD, List.getElem?_eq_getElem hi] at this
    exact this
  have hmany : (rels.eraseIdx rel).length ≤ 100 := by
    have := List.length_eraseIdx_le rels rel
    omega
  refine ⟨hI, fun hv j => ?_, fun j y hy => ?_, fun j hj => ?_, hmany, fun l hl hs => ?_⟩
  · rcases Nat.lt_or_ge j n with hj | hj
    · rw [imgs_get hj]
      split
      · unfold lowW; rw [List.length_map]; exact hv
      · unfold lowW; rw [List.length_map]; simp
    · rw [List.getD_eq_getElem?_getD, List.getElem?_eq_none (by rw [length_imgs]; exact hj)]
      exact Nat.zero_le _
  · exact mild_ok (by omega) (hI _ (mem_getD hy)) y hy
  · have hm : (rels.eraseIdx rel).getD j [] ∈ rels.eraseIdx rel := by rw [List.getD_eq_getElem?_getD, List.getElem?_eq_getElem hj]; exact List.getElem_mem hj
    refine ⟨(hmem _ hm).2, fun x hx => ?_⟩
    have h1 := (hmem _ hm).1 x hx
    exact ⟨mild_ok (by omega) (hmem _ hm).1 x hx, h1.2.2, by omega⟩
  · obtain ⟨rfl, -⟩ := sbL_some hl
    refine presE_of ⟨by omega, by omega⟩ (by rw [List.length_map]; exact hmany) (fun z hz => ?_) hs
    obtain ⟨y, -, rfl⟩ := List.mem_map.1 hz
    exact sbTo_ok hI y _
end Go.Proofs
namespace Go.Proofs
open Go.RowKit Go.Shelf Go.Lib Go.Sort Go.Proofs.Ct Go.Proofs.Tz Go.Maps
theorem eqnilW_none (w : World) (n c : Nat) : (binOp .eql 25 (.slice none n c) (.slice none 0 0)).run Try.prog w = .ok (.bool true) w := by kernel_rfl
theorem eqnilW_some (w : World) (a : Addr) (n c : Nat) : (binOp .eql 25 (.slice (some a) n c) (.slice none 0 0)).run Try.prog w = .ok (.bool false) w := by kernel_rfl
set_option maxRecDepth 100000 in
theorem clone50_any (w : World) (v : Value) (xs : List (List Int)) (h : Tab w v xs) (hl : xs.length ≤ 1000000) :
    Calls Try.prog 50 #[v] w fun e w' => ∃ A c, e = .returned (.slice A xs.length c) ∧ OwnT 24 w.heap.size (fun k => k < w.heap.size) w' (.slice A xs.length c) xs ∧ Below w.heap.size w w' := by
  obtain ⟨vals, hS, hvl, hrow⟩ := h
  have hal : Below w.heap.size w (w.alloc (.cells #[] 24)) := (Below.refl _ _).alloc (Nat.le_refl _) _
  have hown : (w.alloc (.cells #[] 24)).ownsRow w.heap.size 24 1 (.slice (some ⟨w.heap.size, 0, none⟩) 0 0) 0 [] := ⟨rfl, .inr ⟨w.heap.size, 0, #[], rfl, Nat.le_refl _, heap_alloc_new w _, Nat.le_refl _, by simp [maxLen], rfl, rfl⟩⟩
  have h1 : ∀ y ∈ vals, y.oneCell' = true := fun y hy => by
    obtain ⟨i, hi, rfl⟩ := List.getElem_of_mem hy
    obtain ⟨u, hu, hx⟩ := hrow i (by omega)
    rw [List.getElem?_eq_getElem hi] at hu
    obtain rfl := Option.some.inj hu
    obtain ⟨A, c, e, -⟩ := hx.open_
    rw [e]
    rfl
  obtain ⟨A', c', w', hr, ho, hg, -⟩ := run_app (ty := 25) Try.underlying25 info25p rfl (by omega) (w.alloc (.cells #[] 24)) w.heap.size _ 0 [] hown v vals (hS.below hal) h1 (by omega) (by omega) hal.size
  have hb : Below w.heap.size w w' := hal.grown hg hal.size (fun r hr => by
    have : w.heap.size = r := Option.some.inj hr
    omega)
  have hres : OwnT 24 w.heap.size (fun k => k < w.heap.size) w' (.slice A' xs.length c') xs := by
    refine ⟨vals, ?_, hvl, fun j hj => ?_⟩
    · rw [hvl, Nat.zero_add] at ho
      exact ho
    · obtain ⟨u, hu, hx⟩ := hrow j hj
      exact ⟨u, hu, (IntsF.of_at hx).keep (Ag.below hb fun k hk => hk)⟩
  rw [hvl, Nat.zero_add] at hr
  have HR := Lib.hid hr
  have HB := Lib.hid hb
  have HO := Lib.hid hres
  obtain ⟨A, n, cap, rfl, hn, hc1, hc2, hcells⟩ := hS
  have hnx : n = xs.length := by omega
  cases A with
  | none =>
    have h0 : n = 0 := by
      rcases Nat.eq_zero_or_pos n with h0 | h0
      · exact h0
      · obtain ⟨b, off, hx, -⟩ := hcells (by omega)
        cases hx
    have hx0 : xs = [] := List.eq_nil_of_length_eq_zero (by omega)
    subst hx0
    clear hr hb ho hg hrow hcells HR HB HO hres hown hal h1
    have hq := eqnilW_none w
    go_enter Try.func50, Try.ntmps50
    go_wp2_with fail
    go_ret
    exact ⟨none, 0, rfl, ⟨[], World.ownsRow_nil _ _ _ _, RowsF.nil _ _⟩, Below.refl _ _⟩
  | some a =>
    clear hr hb ho hg hrow hcells hres hown hal h1
    have hq := eqnilW_some w
    go_enter Try.func50, Try.ntmps50
    go_wp2_with ((with_reducible refine wpList_sel 7 ?_); refine wpList_val rfl (r_app (.tmp 5) (.tmp 6) 25 rfl rfl rfl HR.out) ?_)
    go_ret
    exact ⟨A', c', rfl, HO.out, HB.out⟩
end Go.Proofs
namespace Go.Proofs
open Go.RowKit Go.Shelf Go.Lib Go.Proofs.Ct Go.Proofs.Tz Go.Maps
set_option maxRecDepth 100000 in
theorem equal8_any (w : World) (va vb : Value) (A B : List (List Int)) (ha : Tab w va A) (hb : Tab w vb B) : Calls Try.prog 8 #[va, vb] w fun e w' => e = .returned (.bool (decide (A = B))) ∧ Below w.heap.size w w' := by
  obtain ⟨Aa, ca, rfl⟩ := Tab.form ha
  obtain ⟨Ab, cb, rfl⟩ := Tab.form hb
  have HS : Hid (Calls Try.prog 7 #[.agg #[.int .i64 0, .slice Aa A.length ca], .agg #[.int .i64 0, .slice Ab B.length cb]] w fun e w' => e = .returned (.bool (decide (A = B))) ∧ Below w.heap.size w w') := Lib.hid ((same26_any w _ _ 0 0 A B ha hb).mono fun e w' ⟨h1, h2⟩ => ⟨h1.trans (ret_bool (by simp)), h2⟩)
  clear ha hb
  generalize decide (A = B) = t at *
  generalize A.length = n at *
  generalize B.length = m at *
  go_enter Try.func8, Try.ntmps8
  go_wp2_with (go_at_call 7; (refine HS.out.mono ?_); rintro e w' ⟨rfl, hb⟩)
  go_ret
  exact ⟨rfl, hb⟩
set_option maxRecDepth 100000 in
theorem numbers11_any (w : World) (va vb : Value) (a b : List Int) (ha : IntsAt w va a) (hb : IntsAt w vb b) : Calls Try.prog 11 #[va, vb] w fun e w' => e = .returned (.bool (decide (a = b))) ∧ Below w.heap.size w w' := by
  obtain ⟨Aa, ca, rfl, -⟩ := ha.open_
  obtain ⟨Ab, cb, rfl, -⟩ := hb.open_
  have hb1 : Below w.heap.size w (w.alloc (.cells #[.slice Aa a.length ca] 23)) := (Below.refl _ _).alloc (Nat.le_refl _) _
  have hb2 : Below w.heap.size w ((w.alloc (.cells #[.slice Aa a.length ca] 23)).alloc (.cells #[.slice Ab b.length cb] 23)) := hb1.alloc hb1.size _
  have h1 : Tab ((w.alloc (.cells #[.slice Aa a.length ca] 23)).alloc (.cells #[.slice Ab b.length cb] 23)) (.slice (some ⟨w.heap.size, 0, none⟩) 1 1) [a] := by
    refine tab_blk ((Below.heap_alloc (w.alloc _) _ w.heap.size (by simp)).trans (heap_alloc_new w _)) rfl rfl (by simp) fun i hi => ?_
    obtain rfl : i = 0 := by simpa using hi
    exact ha.below hb2
  have h2 : Tab ((w.alloc (.cells #[.slice Aa a.length ca] 23)).alloc (.cells #[.slice Ab b.length cb] 23)) (.slice (some ⟨w.heap.size + 1, 0, none⟩) 1 1) [b] := by
    have hn := heap_alloc_new (w.alloc (.cells #[.slice Aa a.length ca] 23)) (.cells #[.slice Ab b.length cb] 23)
    rw [World.size_alloc] at hn
    refine tab_blk hn rfl rfl (by simp) fun i hi => ?_
    obtain rfl : i = 0 := by simpa using hi
    exact hb.below hb2
  have HS := Lib.hid (same18_any _ _ _ _ _ h1 h2)
  have HB := Lib.hid hb2
  have HE : Hid (decide ([a] = [b]) = decide (a = b)) := Lib.hid (by simp)
  rw [HE.out] at HS
  clear ha hb hb1 hb2 h1 h2 HE
  generalize decide (a = b) = t at *
  generalize a.length = n at *
  generalize b.length = m at *
  go_enter Try.func11, Try.ntmps11
  go_wp2_with (go_at_call 18; (refine HS.out.mono ?_); rintro e w' ⟨rfl, q, rfl⟩)
  go_ret
  exact ⟨rfl, below_drewN HB.out _⟩
end Go.Proofs
namespace Go.Proofs
open Go.RowKit Go.Shelf Go.Lib Go.Sort Go.Proofs.Ct Go.Proofs.Tz Go.Maps
shelf_lay Lays2.n23 Nm2 23 at Try as Try.deleteI
theorem delete52_any (base : Nat) (w : World) (A : Option Addr) (c i : Nat) (xs : List Int) (h : OwnI base w (.slice A xs.length c) xs) (hi : i < xs.length) : Calls Try.prog 52 #[.slice A xs.length c, .int .i64 (i : Int), .int .i64 ((i + 1 : Nat) : Int)] w fun e w' => e = .returned (.slice A (xs.length - 1) c) ∧ OwnI base w' (.slice A (xs.length - 1) c) (xs.eraseIdx i) ∧ w.grownBy w' (Value.slice A xs.length c).ownBlock := by
  obtain ⟨g, rfl⟩ := own_some h (by omega)
  obtain ⟨cur, hC, hb, h1, hm, hs, ht, -⟩ := own_cur h (by omega)
  have hH : Holds (Value.int .i64) w g 0 xs.toArray := by
    intro j hj
    have hj' : j < xs.length := by simpa using hj
    obtain ⟨h2, h3⟩ := own_cell h hj'
    rw [Nat.zero_add]
    refine ⟨?_, h3⟩
    rw [h2]
    simp [List.getD_eq_getElem?_getD, hj']
  have hcon := Any.slices_Delete_int Try.deleteI g 0 c i (i + 1) xs w hH h1 hm (by omega) (by omega)
  have hcon2 : Calls Try.prog 52 #[.slice (some ⟨g, 0, none⟩) xs.length c, .int .i64 (i : Int), .int .i64 ((i + 1 : Nat) : Int)] w _ := hcon
  refine hcon2.mono ?_
  rintro e w' ⟨rfl, q, rfl⟩
  have hl : (xs.take i ++ xs.drop (i + 1) ++ List.replicate (i + 1 - i) (0 : Int)).toArray.size = xs.length := by simp; omega
  have hgl := (Array.getElem?_eq_some_iff.1 hC).1
  have he : xs.eraseIdx i = xs.take i ++ xs.drop (i + 1) := List.eraseIdx_eq_take_drop_succ ..
  have hel : (xs.eraseIdx i).length = xs.length - 1 := by rw [List.length_eraseIdx, if_pos hi]
  have hnew : (putRow (Value.int .i64) (Sort.ahead w q) g 0 (xs.take i ++ xs.drop (i + 1) ++ List.replicate (i + 1 - i) 0).toArray).heap[g]? = some (.cells (putCells (Value.int .i64) 0 (xs.take i ++ xs.drop (i + 1) ++ List.replicate (i + 1 - i) 0).toArray cur) 3 (0, 0)) := by
    simp [putRow, mapBlock, Sort.ahead, Array.getElem?_modify, hC, onCells]
  refine ⟨by rw [show i + 1 - i = 1 by omega], ⟨?_, .inr ⟨g, c, _, by rw [hel], hb, hnew, by omega, hm, by simp [putCells, hs], ?_⟩⟩, rfl, rfl, rfl, by simp [putRow, mapBlock, Sort.ahead], fun k hk hne => ?_⟩
  · rw [length_ints, Nat.mul_one]
  · rw [hel, Nat.mul_one]
    apply List.ext_getElem?
    intro j
    by_cases hj : j < xs.length - 1
    · rw [List.getElem?_take, if_pos hj, Array.getElem?_toList, he]
      have hjc : j < cur.size := by omega
      have hjl : j < (xs.take i ++ xs.drop (i + 1)).length := by rw [← he, hel]; exact hj
      have hj2 : j < (xs.take i ++ xs.drop (i + 1) ++ List.replicate (i + 1 - i) (0 : Int)).length := by rw [List.length_append]; omega
      unfold putCells
      rw [Array.getElem?_mapIdx, Array.getElem?_eq_getElem hjc]
      simp only [Option.map_some, Nat.zero_le, true_and, Nat.zero_add, Nat.sub_zero]
      rw [if_pos (by rw [hl]; omega)]
      unfold ints
      rw [List.getElem?_map, List.getElem?_eq_getElem hjl]
      simp only [Option.map_some]
      congr 1
      rw [getElem!_pos _ j (by rw [hl]; omega)]
      simp only [List.getElem_toArray]
      rw [List.getElem_append_left hjl]
    · rw [List.getElem?_take_eq_none (by omega), List.getElem?_eq_none (by rw [length_ints, hel]; omega)]
  · have : g ≠ k := fun e => hne (by rw [← e]; rfl)
    simp [putRow, mapBlock, Sort.ahead, Array.getElem?_modify, this]
end Go.Proofs
namespace Go.Proofs
open Go.RowKit Go.Shelf Go.Lib Go.Sort Go.Proofs.Ct Go.Proofs.Tz Go.Maps
/-- what a slot of a region holds -/
inductive SlT where
  | eq (v : Value) | ints (l : List Int) | tab (l : List (List Int))
def SlT.holds : SlT → Value → World → Prop
  | .eq u, v, _ => v = u
  | .ints l, v, w => ∃ A c, v = .slice A l.length c ∧ IntsAt w v l
  | .tab l, v, w => Tab w v l
theorem SlT.keep {s : SlT} {v : Value} {w w' : World} (h : Below w.heap.size w w') : s.holds v w → s.holds v w' := by
  cases s with
  | eq u => exact id
  | ints l => exact fun ⟨A, c, e, k⟩ => ⟨A, c, e, k.below h⟩
  | tab l => exact fun k => kept_tab.below k h
/-- the first place where the head stands -/
def shortM (s h t : List Int) : Option (List Int) :=
  if h.length ≤ s.length then
    match (List.range s.length).find? (fun k => headsB s k h) with
    | some k => some (mulW (invW t) ((rot s k).drop h.length))
    | none => none
  else none
def ShortPost (s h t : List Int) (w : World) (e : Ending) (w' : World) : Prop :=
  (match shortM s h t with
  | none => e = .returned (.tuple #[.slice none 0 0, .bool false])
  | some x => ∃ A c, e = .returned (.tuple #[.slice A x.length c, .bool true]) ∧ OwnI w.heap.size w' (.slice A x.length c) x) ∧ Below w.heap.size w w'
theorem find_some {s h : List Int} {k : Nat} (hk : k < s.length) (hh : headsB s k h = true) (hz : ∀ j, j < k → headsB s j h = false) : (List.range s.length).find? (fun k => headsB s k h) = some k := by
  rw [List.find?_range_eq_some]
  exact ⟨hh, List.mem_range.2 hk, fun j hj => by rw [hz j hj]; rfl⟩
set_option maxRecDepth 100000 in
set_option maxHeartbeats 4000000 in
theorem shorter49_none (w : World) (us uh ut : Value) (s h t : List Int) (hs : IntsAt w us s) (hh : IntsAt w uh h) (ht : IntsAt w ut t) (hls : s.length ≤ 4000) (hlh : h.length ≤ 4000) (hno : shortM s h t = none) : Calls Try.prog 49 #[us, .agg #[uh, ut]] w (ShortPost s h t w) := by
  obtain ⟨As, cs, rfl, -⟩ := hs.open_
  obtain ⟨Ah, ch, rfl, -⟩ := hh.open_
  obtain ⟨At, ct, rfl, -⟩ := ht.open_
  have hR : ∀ W, Below w.heap.size w W → ShortPost s h t w (.returned (.tuple #[.slice none 0 0, .bool false])) W := fun W hb => by
    unfold ShortPost
    rw [hno]
    exact ⟨rfl, hb⟩
  have HR := Lib.hid hR
  have hs0 : (0 : Int) ≤ (s.length : Int) := Int.natCast_nonneg _
  have hh0 : (0 : Int) ≤ (h.length : Int) := Int.natCast_nonneg _
  have hs1 : (s.length : Int) ≤ 4000 := by omega
  have hh1 : (h.length : Int) ≤ 4000 := by omega
  have hnew := heap_alloc_new w (.cells #[.slice Ah h.length ch, .slice At t.length ct] 89)
  have hc := (cell_of2 hnew).1
  have HB : Hid (Below w.heap.size w (w.alloc (.cells #[.slice Ah h.length ch, .slice At t.length ct] 89))) := Lib.hid ((Below.refl _ _).alloc (Nat.le_refl _) _)
  have HH : Hid (∀ k q, k < s.length → Calls Try.prog 71 #[.slice As s.length cs, .int .i64 (k : Int), .slice Ah h.length ch] ((w.alloc (.cells #[.slice Ah h.length ch, .slice At t.length ct] 89)).drewN q) fun e w' => e = .returned (.bool (headsB s k h)) ∧ ∃ r, w' = ((w.alloc (.cells #[.slice Ah h.length ch, .slice At t.length ct] 89)).drewN q).drewN r) := Lib.hid fun k q hk => heads71_any _ _ _ s h k ((hs.below HB.out).drewN q) ((hh.below HB.out).drewN q) hk (by omega) (by omega)
  have HZ : Hid (h.length ≤ s.length → ∀ j, j < s.length → headsB s j h = false) := Lib.hid fun hle j hj => by
    unfold shortM at hno
    rw [if_pos hle] at hno
    cases hf : (List.range s.length).find? (fun k => headsB s k h) with
    | none =>
      have := List.find?_eq_none.1 hf j (List.mem_range.2 hj)
      simpa using this
    | some k => rw [hf] at hno; cases hno
  clear hs hh ht hnew hR hno
  by_cases hle : h.length ≤ s.length
  · have hle' : ¬ (s.length : Int) < (h.length : Int) := by omega
    have HZ2 := Lib.hid (HZ.out hle)
    clear hle HZ
    go_enter Try.func49, Try.ntmps49
    go_wp2_with fail
    generalize hw1 : w.alloc (.cells #[.slice Ah h.length ch, .slice At t.length ct] 89) = w1 at *
    clear hw1
    go_loopw [6, 7, 16] (fun _ _ z wr => ∃ k : Nat, k ≤ s.length ∧ z = .int .i64 k ∧ ∃ q, wr = w1.drewN q) (fun _ _ z _ => s.length - (intOf z).toNat)
    case atStart => exact ⟨0, Nat.zero_le _, rfl, 0, rfl⟩
    case round =>
      obtain ⟨k, hk, rfl, q, rfl⟩ := hrel
      have hk0 : (0 : Int) ≤ (k : Int) := Int.natCast_nonneg _
      by_cases hlt : k < s.length
      · have hlt' : (k : Int) < (s.length : Int) := by omega
        have hC := HH.out k q hlt
        rw [HZ2.out k hlt] at hC
        have HC := Lib.hid hC
        clear hC
        go_wp2_with (go_at_call 71; (refine HC.out.mono ?_); rintro e w' ⟨rfl, r, rfl⟩)
        go_roundw
        case rel => exact ⟨k + 1, by omega, by go_num, (by first | exact ⟨_, rfl⟩ | exact ex_drewN)⟩
        case measure => simp [intOf]; omega
      · obtain rfl : k = s.length := by omega
        go_wp2_with fail
        go_ret2
        exact HR.out _ (below_drewN HB.out _)
  · have hle' : (s.length : Int) < (h.length : Int) := by omega
    clear hle HZ
    go_enter Try.func49, Try.ntmps49
    go_wp2_with fail
    go_ret2
    exact HR.out _ HB.out
end Go.Proofs
