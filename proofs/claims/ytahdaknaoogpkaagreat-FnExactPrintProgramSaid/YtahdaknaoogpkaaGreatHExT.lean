import Derived.Test.YtahdaknaoogpkaaGreatExB
import Derived.Test.YtahdaknaoogpkaaGreatHPx
import Derived.Test.YtahdaknaoogpkaaGreatHJoin
import Derived.Test.YtahdaknaoogpkaaGreatExT
/- The text of an expression, over the second engine: impl.exText. Printed by ext.py. -/
set_option maxRecDepth 100000
set_option maxHeartbeats 4000000
namespace Go.Proofs.YtahdaknaoogpkaaGreat
set_option linter.unusedVariables false
set_option linter.unusedSimpArgs false
attribute [local go_sem] List.map_cons List.map_nil
open Go.RowKit Arb

theorem exS_m2 (a : EI) (l : List ET) : exS (.mk a l) = [.pt [.s (.int .i64 a.kind), .s (.int .i64 a.at_), .s (.int .i64 a.n), .s (.string a.s), .sl 1 (l.map exS), .sl 1 (a.pats.map MPat.enc)]] := by show [exE _] = _; rw [exE_mk]
structure goN (a : EI) (l : List ET) : Prop where
  s : a.s.size ≤ 1048576
  q : ∀ q ∈ a.pats, q.ok ∧ q.sm
theorem goN.strB {t : ET} (h : All goN t) : All strB t := by
  induction t using Arb.ind with
  | h a l ih => exact .mk h.root.s fun t ht => ih t ht (h.kid t ht)
theorem etx_le {t : ET} (ok : okT t) (g : All goN t) (hz : t.size ≤ 1000) : (etx t).size ≤ 5000000000 := by
  have := etx_size t ok (goN.strB g)
  omega
theorem z3 (a b c : UInt8) : (⟨#[a, b, c]⟩ : ByteArray).size = 3 := rfl
theorem z5 (a b c d e : UInt8) : (⟨#[a, b, c, d, e]⟩ : ByteArray).size = 5 := rfl
theorem z6 (a b c d e f : UInt8) : (⟨#[a, b, c, d, e, f]⟩ : ByteArray).size = 6 := rfl
theorem z7 (a b c d e f g : UInt8) : (⟨#[a, b, c, d, e, f, g]⟩ : ByteArray).size = 7 := rfl
theorem z9 (a b c d e f g h i : UInt8) : (⟨#[a, b, c, d, e, f, g, h, i]⟩ : ByteArray).size = 9 := rfl
theorem c_PrintPatT (q : MPat) (hp : patM q.nodes = true) (ho : q.ok) (hs : q.sm) : FCon Tryz.prog 117 [.ag q.enc] (fun r _ => r = .s (.string (ptT q))) := by
  obtain ⟨h1, h2, h3⟩ := ptree_spec hp
  have hc := c_implPatOk q.nodes ho hs
  rw [← MPat.enc_eq, hp] at hc
  exact c_PrintPat q hp hc _ h1 h2 h3
noncomputable def etR (t : ET) : List D := stE (etx t)
theorem etR_eq (t : ET) : etR t = [.s (.string (etx t))] := rfl
abbrev XT (t : ET) : Prop := FCon Tryz.prog 44 [exE t] (fun r _ => r = .s (.string (etx t)))
theorem c_exT1 (a : EI) (l : List ET) (hk : a.kind = 1 ∨ a.kind = 2 ∨ a.kind = 3 ∨ a.kind = 4 ∨ a.kind = 12) (ok : okT (.mk a l)) (g : All goN (.mk a l)) (hz : (Arb.mk a l).size ≤ 1000) (ih : ∀ x : ET, x.size < (Arb.mk a l).size → okT x → All goN x → XT x) : XT (.mk a l) := by
  have ok1 := ok.kid
  have g1 := g.kid
  have hs := g.root.s
  have hll : l.length ≤ 1000 := by have := sizeL_len l; rw [size_mk] at hz; omega
  have ihk : ∀ x ∈ l, XT x := fun x hx => ih x (size_lt hx) (ok1 x hx) (g1 x hx)
  have v := ok.root.v
  unfold XT
  rw [exE_mk]
  refine FCon.intro PM _ Tryz.func44 (by kernel_rfl) rfl _ Tryz.ntmps44 rfl [(18, 26, [], [], (lin [] [0, 1, 2, 3, 4, 5, 6, 7, 8, 9, 10, 11, 12, 13, 14, 15, 16, 17, 18, 19, 20, 21, 22, 23, 24, 25])), (19, 9, [], [], (lin [] [0, 1, 2, 3, 4, 5, 6, 7, 8])), (21, 9, [], [], (lin [] [0, 1, 2, 3, 4, 5, 6, 7, 8])), (25, 8, [], [], (lin [] [0, 1, 2, 3, 4, 5, 6, 7])), (26, 8, [], [], (lin [] [0, 1, 2, 3, 4, 5, 6, 7])), (28, 14, [], [], (lin [] [0, 1, 2, 3, 4, 5, 6, 7, 8, 9, 10, 11, 12, 13])), (30, 34, [], [], (lin [] [0, 1, 2, 3, 4, 5, 6, 7, 8, 9, 10, 11, 12, 13, 14, 15, 16, 17, 18, 19, 20, 21, 22, 23, 24, 25, 26, 27, 28, 29, 30, 31, 32, 33])), (32, 13, [], [], (lin [] [0, 1, 2, 3, 4, 5, 6, 7, 8, 9, 10, 11, 12])), (34, 14, [], [], (lin [] [0, 1, 2, 3, 4, 5, 6, 7, 8, 9, 10, 11, 12, 13])), (36, 8, [], [], (lin [] [0, 1, 2, 3, 4, 5, 6, 7])), (42, 11, [], [], (lin [] [0, 1, 2, 3, 4, 5, 6, 7, 8, 9, 10])), (44, 7, [], [], (lin [] [0, 1, 2, 3, 4, 5, 6])), (48, 14, [], [], (lin [] [0, 1, 2, 3, 4, 5, 6, 7, 8, 9, 10, 11, 12, 13])), (54, 8, [], [], (lin [] [0, 1, 2, 3, 4, 5, 6, 7])), (56, 8, [], [], (lin [] [0, 1, 2, 3, 4, 5, 6, 7]))] (by decide +kernel) (by simp) (by simp) rfl (by first | rfl | simp only [go_sem]) ?_
  (have hWf := f0; repeat' (first | refine zS ?_ | exact zE | with_reducible apply And.intro | with_reducible exact zB0 | with_reducible refine zB fun hb => ?_ | exact zC | refine zT ?_ | fail))
  refine AC_loop (fun n σ => ∃ k : Nat, k ≤ l.length ∧ n = l.length - k ∧ σ.t 0 = .pt [.s (.int .i64 a.kind), .s (.int .i64 a.at_), .s (.int .i64 a.n), .s (.string a.s), .sl 1 (l.map exS), .sl 1 (a.pats.map MPat.enc)] ∧ σ.t 3 = .bs 10 1 k ∧ σ.t 14 = .sl 1 (l.map exS) ∧ σ.t 15 = .s (.int .i64 l.length) ∧ σ.t 16 = .s (.int .i64 k) ∧ σ.b 10 = some (.arr 9 1 ((l.take k).map etR))) l.length ⟨0, by omega, by omega, ?_⟩ ?_
  · simp only [go_sem, simprocAttr, Int.natCast_zero, List.take_zero]
  · rintro n σ ⟨k, hk', rfl, h0, h3, h14, h15, h16, b10⟩ K' hK
    by_cases hlt : k < l.length
    · have hx := getD_map exS l k hlt
      have hc := ihk l[k] (List.getElem_mem hlt)
      obtain ⟨b, r, hbr⟩ : ∃ b r, l[k] = .mk b r := ⟨_, _, Arb.eta _⟩
      have hex : exS l[k] = [.pt [.s (.int .i64 b.kind), .s (.int .i64 b.at_), .s (.int .i64 b.n), .s (.string b.s), .sl 1 (r.map exS), .sl 1 (b.pats.map MPat.enc)]] := by rw [hbr, exS_m2]
      have hce : exE l[k] = .pt [.s (.int .i64 b.kind), .s (.int .i64 b.at_), .s (.int .i64 b.n), .s (.string b.s), .sl 1 (r.map exS), .sl 1 (b.pats.map MPat.enc)] := by rw [hbr, exE_mk]
      unfold XT at hc
      rw [hce] at hc
      have her := etR_eq l[k]
      have htl : (l.take k).length = k := by rw [List.length_take]; omega
      have hts := List.take_succ_eq_append_getElem hlt
      (have hWf := WFx.mk (ai @h0 <| ai @h3 <| ai @h14 <| ai @h15 <| ai @h16 <| ai @b10 <| ai @hx <| ai @hex <| @htl); repeat' (first | refine zS ?_ | exact zE | with_reducible apply And.intro | refine zK (hc) ?_ | with_reducible exact zB0 | with_reducible refine zB fun hb => ?_ | exact zC | refine zT ?_ | fail))
      refine hK (l.length - (k + 1)) _ (by omega) ⟨k + 1, by omega, rfl, ?_⟩
      simp only [go_sem, simprocAttr, h0, h3, h14, h15, h16, b10, Int.natCast_succ, hts, List.map_append, her]
    · obtain rfl : k = l.length := by omega
      rw [List.take_length] at b10
      clear ihk
      cases v with
      | int k e n0 n1 =>
        subst e
        rw [etx_int k]
        have c1 := c_implNumText a.n ⟨by omega, by omega⟩
        clear ih ok ok1 g g1
        (have hWf := WFx.mk (ai @h0 <| ai @h3 <| ai @h14 <| ai @h15 <| ai @h16 <| ai @b10 <| ai @k <| @etR_eq); repeat' (first | refine zS ?_ | exact zE | with_reducible apply And.intro | refine zK (c1) ?_ | with_reducible exact zB0 | with_reducible refine zB fun hb => ?_ | exact zC | refine zT ?_ | fail))
      | str k e =>
        subst e
        rw [etx_str k]
        have c1 := c_implQuote a.s (by omega)
        clear ih ok ok1 g g1
        (have hWf := WFx.mk (ai @h0 <| ai @h3 <| ai @h14 <| ai @h15 <| ai @h16 <| ai @b10 <| ai @k <| @etR_eq); repeat' (first | refine zS ?_ | exact zE | with_reducible apply And.intro | refine zK (c1) ?_ | with_reducible exact zB0 | with_reducible refine zB fun hb => ?_ | exact zC | refine zT ?_ | fail))
      | var k e =>
        subst e
        rw [etx_var k]
        clear ih ok ok1 g g1
        (have hWf := WFx.mk (ai @h0 <| ai @h3 <| ai @h14 <| ai @h15 <| ai @h16 <| ai @b10 <| ai @k <| @etR_eq); repeat' (first | refine zS ?_ | exact zE | with_reducible apply And.intro | with_reducible exact zB0 | with_reducible refine zB fun hb => ?_ | exact zC | refine zT ?_ | fail))
      | con0 k e =>
        subst e
        rw [etx_con0 k]
        clear ih ok ok1 g g1
        (have hWf := WFx.mk (ai @h0 <| ai @h3 <| ai @h14 <| ai @h15 <| ai @h16 <| ai @b10 <| ai @k <| @etR_eq); repeat' (first | refine zS ?_ | exact zE | with_reducible apply And.intro | with_reducible exact zB0 | with_reducible refine zB fun hb => ?_ | exact zC | refine zT ?_ | fail))
      | cons b x y k e hk hs =>
        subst e
        simp only [size_mk, sizeL_cons, sizeL_nil] at hz
        have ox := (ok1 (.mk b [x, y]) (by simp)).kid x (by simp)
        have oy := (ok1 (.mk b [x, y]) (by simp)).kid y (by simp)
        have gx := (g1 (.mk b [x, y]) (by simp)).kid x (by simp)
        have gy := (g1 (.mk b [x, y]) (by simp)).kid y (by simp)
        have c1 := ih x (size_lt2 (r := [x, y]) (by simp) (List.mem_singleton.2 rfl)) ox gx
        have c2 := ih y (size_lt2 (r := [x, y]) (by simp) (List.mem_singleton.2 rfl)) oy gy
        have sx := etx_le ox gx (by omega)
        have sy := etx_le oy gy (by omega)
        have h5 := eq58_t hs
        rw [etx_cons k hs]
        clear ih ok ok1 g g1
        obtain ⟨ax, rx⟩ := x
        obtain ⟨ay, ry⟩ := y
        unfold XT at c1 c2
        simp only [exE_mk] at c1 c2
        (have hWf := WFx.mk (ai @h0 <| ai @h3 <| ai @h14 <| ai @h15 <| ai @h16 <| ai @b10 <| ai @k <| ai @etR_eq <| ai @exS_m2 <| ai @h5 <| ai @lit58 <| ai @ByteArray.size_append <| ai @z1 <| ai @z2 <| ai @z3 <| ai @z4 <| ai @z5 <| ai @z6 <| ai @z7 <| @z9); repeat' (first | refine zS ?_ | exact zE | with_reducible apply And.intro | refine zK (c1) ?_ | refine zK (c2) ?_ | with_reducible exact zB0 | with_reducible refine zB fun hb => ?_ | exact zC | refine zT ?_ | fail))
      | con1 x k e hc =>
        subst e
        simp only [size_mk, sizeL_cons, sizeL_nil] at hz
        have sx := etx_le (ok1 x (by simp)) (g1 x (by simp)) (by omega)
        have h5 := eq58_f (conM_ne58 hc)
        rw [etx_con1 k (conM_ne58 hc)]
        clear ih ok ok1 g g1
        (have hWf := WFx.mk (ai @h0 <| ai @h3 <| ai @h14 <| ai @h15 <| ai @h16 <| ai @b10 <| ai @k <| ai @etR_eq <| ai @h5 <| ai @lit58 <| ai @ByteArray.size_append <| ai @z1 <| ai @z2 <| ai @z3 <| ai @z4 <| ai @z5 <| ai @z6 <| ai @z7 <| @z9); repeat' (first | refine zS ?_ | exact zE | with_reducible apply And.intro | with_reducible exact zB0 | with_reducible refine zB fun hb => ?_ | exact zC | refine zT ?_ | fail))
      | unit k e =>
        subst e
        rw [etx_unit k]
        clear ih ok ok1 g g1
        (have hWf := WFx.mk (ai @h0 <| ai @h3 <| ai @h14 <| ai @h15 <| ai @h16 <| ai @b10 <| ai @k <| @etR_eq); repeat' (first | refine zS ?_ | exact zE | with_reducible apply And.intro | with_reducible exact zB0 | with_reducible refine zB fun hb => ?_ | exact zC | refine zT ?_ | fail))
      | _ => exfalso; omega
theorem c_exT2 (a : EI) (l : List ET) (hk : a.kind = 5 ∨ a.kind = 6 ∨ a.kind = 7 ∨ a.kind = 8) (ok : okT (.mk a l)) (g : All goN (.mk a l)) (hz : (Arb.mk a l).size ≤ 1000) (ih : ∀ x : ET, x.size < (Arb.mk a l).size → okT x → All goN x → XT x) : XT (.mk a l) := by
  have ok1 := ok.kid
  have g1 := g.kid
  have hs := g.root.s
  have hll : l.length ≤ 1000 := by have := sizeL_len l; rw [size_mk] at hz; omega
  have ihk : ∀ x ∈ l, XT x := fun x hx => ih x (size_lt hx) (ok1 x hx) (g1 x hx)
  have v := ok.root.v
  unfold XT
  rw [exE_mk]
  refine FCon.intro PM _ Tryz.func44 (by kernel_rfl) rfl _ Tryz.ntmps44 rfl [(18, 26, [], [], (lin [] [0, 1, 2, 3, 4, 5, 6, 7, 8, 9, 10, 11, 12, 13, 14, 15, 16, 17, 18, 19, 20, 21, 22, 23, 24, 25])), (19, 9, [], [], (lin [] [0, 1, 2, 3, 4, 5, 6, 7, 8])), (21, 9, [], [], (lin [] [0, 1, 2, 3, 4, 5, 6, 7, 8])), (25, 8, [], [], (lin [] [0, 1, 2, 3, 4, 5, 6, 7])), (26, 8, [], [], (lin [] [0, 1, 2, 3, 4, 5, 6, 7])), (28, 14, [], [], (lin [] [0, 1, 2, 3, 4, 5, 6, 7, 8, 9, 10, 11, 12, 13])), (30, 34, [], [], (lin [] [0, 1, 2, 3, 4, 5, 6, 7, 8, 9, 10, 11, 12, 13, 14, 15, 16, 17, 18, 19, 20, 21, 22, 23, 24, 25, 26, 27, 28, 29, 30, 31, 32, 33])), (32, 13, [], [], (lin [] [0, 1, 2, 3, 4, 5, 6, 7, 8, 9, 10, 11, 12])), (34, 14, [], [], (lin [] [0, 1, 2, 3, 4, 5, 6, 7, 8, 9, 10, 11, 12, 13])), (36, 8, [], [], (lin [] [0, 1, 2, 3, 4, 5, 6, 7])), (42, 11, [], [], (lin [] [0, 1, 2, 3, 4, 5, 6, 7, 8, 9, 10])), (44, 7, [], [], (lin [] [0, 1, 2, 3, 4, 5, 6])), (48, 14, [], [], (lin [] [0, 1, 2, 3, 4, 5, 6, 7, 8, 9, 10, 11, 12, 13])), (54, 8, [], [], (lin [] [0, 1, 2, 3, 4, 5, 6, 7])), (56, 8, [], [], (lin [] [0, 1, 2, 3, 4, 5, 6, 7]))] (by decide +kernel) (by simp) (by simp) rfl (by first | rfl | simp only [go_sem]) ?_
  (have hWf := f0; repeat' (first | refine zS ?_ | exact zE | with_reducible apply And.intro | with_reducible exact zB0 | with_reducible refine zB fun hb => ?_ | exact zC | refine zT ?_ | fail))
  refine AC_loop (fun n σ => ∃ k : Nat, k ≤ l.length ∧ n = l.length - k ∧ σ.t 0 = .pt [.s (.int .i64 a.kind), .s (.int .i64 a.at_), .s (.int .i64 a.n), .s (.string a.s), .sl 1 (l.map exS), .sl 1 (a.pats.map MPat.enc)] ∧ σ.t 3 = .bs 10 1 k ∧ σ.t 14 = .sl 1 (l.map exS) ∧ σ.t 15 = .s (.int .i64 l.length) ∧ σ.t 16 = .s (.int .i64 k) ∧ σ.b 10 = some (.arr 9 1 ((l.take k).map etR))) l.length ⟨0, by omega, by omega, ?_⟩ ?_
  · simp only [go_sem, simprocAttr, Int.natCast_zero, List.take_zero]
  · rintro n σ ⟨k, hk', rfl, h0, h3, h14, h15, h16, b10⟩ K' hK
    by_cases hlt : k < l.length
    · have hx := getD_map exS l k hlt
      have hc := ihk l[k] (List.getElem_mem hlt)
      obtain ⟨b, r, hbr⟩ : ∃ b r, l[k] = .mk b r := ⟨_, _, Arb.eta _⟩
      have hex : exS l[k] = [.pt [.s (.int .i64 b.kind), .s (.int .i64 b.at_), .s (.int .i64 b.n), .s (.string b.s), .sl 1 (r.map exS), .sl 1 (b.pats.map MPat.enc)]] := by rw [hbr, exS_m2]
      have hce : exE l[k] = .pt [.s (.int .i64 b.kind), .s (.int .i64 b.at_), .s (.int .i64 b.n), .s (.string b.s), .sl 1 (r.map exS), .sl 1 (b.pats.map MPat.enc)] := by rw [hbr, exE_mk]
      unfold XT at hc
      rw [hce] at hc
      have her := etR_eq l[k]
      have htl : (l.take k).length = k := by rw [List.length_take]; omega
      have hts := List.take_succ_eq_append_getElem hlt
      (have hWf := WFx.mk (ai @h0 <| ai @h3 <| ai @h14 <| ai @h15 <| ai @h16 <| ai @b10 <| ai @hx <| ai @hex <| @htl); repeat' (first | refine zS ?_ | exact zE | with_reducible apply And.intro | refine zK (hc) ?_ | with_reducible exact zB0 | with_reducible refine zB fun hb => ?_ | exact zC | refine zT ?_ | fail))
      refine hK (l.length - (k + 1)) _ (by omega) ⟨k + 1, by omega, rfl, ?_⟩
      simp only [go_sem, simprocAttr, h0, h3, h14, h15, h16, b10, Int.natCast_succ, hts, List.map_append, her]
    · obtain rfl : k = l.length := by omega
      rw [List.take_length] at b10
      clear ihk
      cases v with
      | func x k e =>
        subst e
        simp only [size_mk, sizeL_cons, sizeL_nil] at hz
        have sx := etx_le (ok1 x (by simp)) (g1 x (by simp)) (by omega)
        rw [etx_func k]
        clear ih ok ok1 g g1
        (have hWf := WFx.mk (ai @h0 <| ai @h3 <| ai @h14 <| ai @h15 <| ai @h16 <| ai @b10 <| ai @k <| ai @etR_eq <| ai @ByteArray.size_append <| ai @z1 <| ai @z2 <| ai @z3 <| ai @z4 <| ai @z5 <| ai @z6 <| ai @z7 <| @z9); repeat' (first | refine zS ?_ | exact zE | with_reducible apply And.intro | with_reducible exact zB0 | with_reducible refine zB fun hb => ?_ | exact zC | refine zT ?_ | fail))
      | app x y k e =>
        subst e
        simp only [size_mk, sizeL_cons, sizeL_nil] at hz
        have sx := etx_le (ok1 x (by simp)) (g1 x (by simp)) (by omega)
        have sy := etx_le (ok1 y (by simp)) (g1 y (by simp)) (by omega)
        obtain ⟨b, r⟩ := x
        clear ih ok ok1 g g1
        by_cases hb : b.kind = 4
        · cases r with
          | nil =>
            rw [etx_appc k hb]
            (have hWf := WFx.mk (ai @h0 <| ai @h3 <| ai @h14 <| ai @h15 <| ai @h16 <| ai @b10 <| ai @k <| ai @etR_eq <| ai @exS_m2 <| ai @hb <| ai @ByteArray.size_append <| ai @z1 <| ai @z2 <| ai @z3 <| ai @z4 <| ai @z5 <| ai @z6 <| ai @z7 <| @z9); repeat' (first | refine zS ?_ | exact zE | with_reducible apply And.intro | with_reducible exact zB0 | with_reducible refine zB fun hb => ?_ | exact zC | refine zT ?_ | fail))
          | cons p r =>
            rw [etx_app k (by simp)]
            (have hWf := WFx.mk (ai @h0 <| ai @h3 <| ai @h14 <| ai @h15 <| ai @h16 <| ai @b10 <| ai @k <| ai @etR_eq <| ai @exS_m2 <| ai @hb <| ai @ByteArray.size_append <| ai @z1 <| ai @z2 <| ai @z3 <| ai @z4 <| ai @z5 <| ai @z6 <| ai @z7 <| @z9); repeat' (first | refine zS ?_ | exact zE | with_reducible apply And.intro | with_reducible exact zB0 | with_reducible refine zB fun hb => ?_ | exact zC | refine zT ?_ | fail))
        · have hb2 : (b.kind == 4) = false := by simpa using hb
          rw [etx_app k (fun q => hb q.1)]
          (have hWf := WFx.mk (ai @h0 <| ai @h3 <| ai @h14 <| ai @h15 <| ai @h16 <| ai @b10 <| ai @k <| ai @etR_eq <| ai @exS_m2 <| ai @hb2 <| ai @ByteArray.size_append <| ai @z1 <| ai @z2 <| ai @z3 <| ai @z4 <| ai @z5 <| ai @z6 <| ai @z7 <| @z9); repeat' (first | refine zS ?_ | exact zE | with_reducible apply And.intro | with_reducible exact zB0 | with_reducible refine zB fun hb => ?_ | exact zC | refine zT ?_ | fail))
      | let_ x y k e =>
        subst e
        simp only [size_mk, sizeL_cons, sizeL_nil] at hz
        have sx := etx_le (ok1 x (by simp)) (g1 x (by simp)) (by omega)
        have sy := etx_le (ok1 y (by simp)) (g1 y (by simp)) (by omega)
        rw [etx_let k]
        clear ih ok ok1 g g1
        (have hWf := WFx.mk (ai @h0 <| ai @h3 <| ai @h14 <| ai @h15 <| ai @h16 <| ai @b10 <| ai @k <| ai @etR_eq <| ai @ByteArray.size_append <| ai @z1 <| ai @z2 <| ai @z3 <| ai @z4 <| ai @z5 <| ai @z6 <| ai @z7 <| @z9); repeat' (first | refine zS ?_ | exact zE | with_reducible apply And.intro | with_reducible exact zB0 | with_reducible refine zB fun hb => ?_ | exact zC | refine zT ?_ | fail))
      | rec_ b x y k e hk hn =>
        subst e
        simp only [size_mk, sizeL_cons, sizeL_nil] at hz
        have ox := (ok1 (.mk b [x]) (by simp)).kid x (by simp)
        have gx := (g1 (.mk b [x]) (by simp)).kid x (by simp)
        have hbs := (g1 (.mk b [x]) (by simp)).root.s
        have c1 := ih x (size_lt2 (r := [x]) (by simp) (List.mem_cons_self ..)) ox gx
        have sx := etx_le ox gx (by omega)
        have sy := etx_le (ok1 y (by simp)) (g1 y (by simp)) (by omega)
        rw [etx_rec k]
        clear ih ok ok1 g g1
        obtain ⟨ax, rx⟩ := x
        unfold XT at c1
        simp only [exE_mk] at c1
        (have hWf := WFx.mk (ai @h0 <| ai @h3 <| ai @h14 <| ai @h15 <| ai @h16 <| ai @b10 <| ai @k <| ai @etR_eq <| ai @exS_m2 <| ai @ByteArray.size_append <| ai @z1 <| ai @z2 <| ai @z3 <| ai @z4 <| ai @z5 <| ai @z6 <| ai @z7 <| @z9); repeat' (first | refine zS ?_ | exact zE | with_reducible apply And.intro | refine zK (c1) ?_ | with_reducible exact zB0 | with_reducible refine zB fun hb => ?_ | exact zC | refine zT ?_ | fail))
      | _ => exfalso; omega
theorem c_exT3 (a : EI) (l : List ET) (hk : a.kind = 9 ∨ a.kind = 10 ∨ a.kind = 11 ∨ a.kind = 14) (ok : okT (.mk a l)) (g : All goN (.mk a l)) (hz : (Arb.mk a l).size ≤ 1000) (ih : ∀ x : ET, x.size < (Arb.mk a l).size → okT x → All goN x → XT x) : XT (.mk a l) := by
  have ok1 := ok.kid
  have g1 := g.kid
  have hs := g.root.s
  have hll : l.length ≤ 1000 := by have := sizeL_len l; rw [size_mk] at hz; omega
  have ihk : ∀ x ∈ l, XT x := fun x hx => ih x (size_lt hx) (ok1 x hx) (g1 x hx)
  have v := ok.root.v
  unfold XT
  rw [exE_mk]
  refine FCon.intro PM _ Tryz.func44 (by kernel_rfl) rfl _ Tryz.ntmps44 rfl [(18, 26, [], [], (lin [] [0, 1, 2, 3, 4, 5, 6, 7, 8, 9, 10, 11, 12, 13, 14, 15, 16, 17, 18, 19, 20, 21, 22, 23, 24, 25])), (19, 9, [], [], (lin [] [0, 1, 2, 3, 4, 5, 6, 7, 8])), (21, 9, [], [], (lin [] [0, 1, 2, 3, 4, 5, 6, 7, 8])), (25, 8, [], [], (lin [] [0, 1, 2, 3, 4, 5, 6, 7])), (26, 8, [], [], (lin [] [0, 1, 2, 3, 4, 5, 6, 7])), (28, 14, [], [], (lin [] [0, 1, 2, 3, 4, 5, 6, 7, 8, 9, 10, 11, 12, 13])), (30, 34, [], [], (lin [] [0, 1, 2, 3, 4, 5, 6, 7, 8, 9, 10, 11, 12, 13, 14, 15, 16, 17, 18, 19, 20, 21, 22, 23, 24, 25, 26, 27, 28, 29, 30, 31, 32, 33])), (32, 13, [], [], (lin [] [0, 1, 2, 3, 4, 5, 6, 7, 8, 9, 10, 11, 12])), (34, 14, [], [], (lin [] [0, 1, 2, 3, 4, 5, 6, 7, 8, 9, 10, 11, 12, 13])), (36, 8, [], [], (lin [] [0, 1, 2, 3, 4, 5, 6, 7])), (42, 11, [], [], (lin [] [0, 1, 2, 3, 4, 5, 6, 7, 8, 9, 10])), (44, 7, [], [], (lin [] [0, 1, 2, 3, 4, 5, 6])), (48, 14, [], [], (lin [] [0, 1, 2, 3, 4, 5, 6, 7, 8, 9, 10, 11, 12, 13])), (54, 8, [], [], (lin [] [0, 1, 2, 3, 4, 5, 6, 7])), (56, 8, [], [], (lin [] [0, 1, 2, 3, 4, 5, 6, 7]))] (by decide +kernel) (by simp) (by simp) rfl (by first | rfl | simp only [go_sem]) ?_
  (have hWf := f0; repeat' (first | refine zS ?_ | exact zE | with_reducible apply And.intro | with_reducible exact zB0 | with_reducible refine zB fun hb => ?_ | exact zC | refine zT ?_ | fail))
  refine AC_loop (fun n σ => ∃ k : Nat, k ≤ l.length ∧ n = l.length - k ∧ σ.t 0 = .pt [.s (.int .i64 a.kind), .s (.int .i64 a.at_), .s (.int .i64 a.n), .s (.string a.s), .sl 1 (l.map exS), .sl 1 (a.pats.map MPat.enc)] ∧ σ.t 3 = .bs 10 1 k ∧ σ.t 14 = .sl 1 (l.map exS) ∧ σ.t 15 = .s (.int .i64 l.length) ∧ σ.t 16 = .s (.int .i64 k) ∧ σ.b 10 = some (.arr 9 1 ((l.take k).map etR))) l.length ⟨0, by omega, by omega, ?_⟩ ?_
  · simp only [go_sem, simprocAttr, Int.natCast_zero, List.take_zero]
  · rintro n σ ⟨k, hk', rfl, h0, h3, h14, h15, h16, b10⟩ K' hK
    by_cases hlt : k < l.length
    · have hx := getD_map exS l k hlt
      have hc := ihk l[k] (List.getElem_mem hlt)
      obtain ⟨b, r, hbr⟩ : ∃ b r, l[k] = .mk b r := ⟨_, _, Arb.eta _⟩
      have hex : exS l[k] = [.pt [.s (.int .i64 b.kind), .s (.int .i64 b.at_), .s (.int .i64 b.n), .s (.string b.s), .sl 1 (r.map exS), .sl 1 (b.pats.map MPat.enc)]] := by rw [hbr, exS_m2]
      have hce : exE l[k] = .pt [.s (.int .i64 b.kind), .s (.int .i64 b.at_), .s (.int .i64 b.n), .s (.string b.s), .sl 1 (r.map exS), .sl 1 (b.pats.map MPat.enc)] := by rw [hbr, exE_mk]
      unfold XT at hc
      rw [hce] at hc
      have her := etR_eq l[k]
      have htl : (l.take k).length = k := by rw [List.length_take]; omega
      have hts := List.take_succ_eq_append_getElem hlt
      (have hWf := WFx.mk (ai @h0 <| ai @h3 <| ai @h14 <| ai @h15 <| ai @h16 <| ai @b10 <| ai @hx <| ai @hex <| @htl); repeat' (first | refine zS ?_ | exact zE | with_reducible apply And.intro | refine zK (hc) ?_ | with_reducible exact zB0 | with_reducible refine zB fun hb => ?_ | exact zC | refine zT ?_ | fail))
      refine hK (l.length - (k + 1)) _ (by omega) ⟨k + 1, by omega, rfl, ?_⟩
      simp only [go_sem, simprocAttr, h0, h3, h14, h15, h16, b10, Int.natCast_succ, hts, List.map_append, her]
    · obtain rfl : k = l.length := by omega
      rw [List.take_length] at b10
      clear ihk
      cases v with
      | if_ x y z k e =>
        subst e
        simp only [size_mk, sizeL_cons, sizeL_nil] at hz
        have sx := etx_le (ok1 x (by simp)) (g1 x (by simp)) (by omega)
        have sy := etx_le (ok1 y (by simp)) (g1 y (by simp)) (by omega)
        have sz := etx_le (ok1 z (by simp)) (g1 z (by simp)) (by omega)
        rw [etx_if k]
        clear ih ok ok1 g g1
        (have hWf := WFx.mk (ai @h0 <| ai @h3 <| ai @h14 <| ai @h15 <| ai @h16 <| ai @b10 <| ai @k <| ai @etR_eq <| ai @ByteArray.size_append <| ai @z1 <| ai @z2 <| ai @z3 <| ai @z4 <| ai @z5 <| ai @z6 <| ai @z7 <| @z9); repeat' (first | refine zS ?_ | exact zE | with_reducible apply And.intro | with_reducible exact zB0 | with_reducible refine zB fun hb => ?_ | exact zC | refine zT ?_ | fail))
      | prim x y k e =>
        subst e
        simp only [size_mk, sizeL_cons, sizeL_nil] at hz
        have sx := etx_le (ok1 x (by simp)) (g1 x (by simp)) (by omega)
        have sy := etx_le (ok1 y (by simp)) (g1 y (by simp)) (by omega)
        rw [etx_prim k]
        clear ih ok ok1 g g1
        (have hWf := WFx.mk (ai @h0 <| ai @h3 <| ai @h14 <| ai @h15 <| ai @h16 <| ai @b10 <| ai @k <| ai @etR_eq <| ai @ByteArray.size_append <| ai @z1 <| ai @z2 <| ai @z3 <| ai @z4 <| ai @z5 <| ai @z6 <| ai @z7 <| @z9); repeat' (first | refine zS ?_ | exact zE | with_reducible apply And.intro | with_reducible exact zB0 | with_reducible refine zB fun hb => ?_ | exact zC | refine zT ?_ | fail))
      | pair x y k e =>
        subst e
        simp only [size_mk, sizeL_cons, sizeL_nil] at hz
        have sx := etx_le (ok1 x (by simp)) (g1 x (by simp)) (by omega)
        have sy := etx_le (ok1 y (by simp)) (g1 y (by simp)) (by omega)
        rw [etx_pair k]
        clear ih ok ok1 g g1
        (have hWf := WFx.mk (ai @h0 <| ai @h3 <| ai @h14 <| ai @h15 <| ai @h16 <| ai @b10 <| ai @k <| ai @etR_eq <| ai @ByteArray.size_append <| ai @z1 <| ai @z2 <| ai @z3 <| ai @z4 <| ai @z5 <| ai @z6 <| ai @z7 <| @z9); repeat' (first | refine zS ?_ | exact zE | with_reducible apply And.intro | with_reducible exact zB0 | with_reducible refine zB fun hb => ?_ | exact zC | refine zT ?_ | fail))
      | raise x k e =>
        subst e
        simp only [size_mk, sizeL_cons, sizeL_nil] at hz
        have sx := etx_le (ok1 x (by simp)) (g1 x (by simp)) (by omega)
        rw [etx_raise k]
        clear ih ok ok1 g g1
        (have hWf := WFx.mk (ai @h0 <| ai @h3 <| ai @h14 <| ai @h15 <| ai @h16 <| ai @b10 <| ai @k <| ai @etR_eq <| ai @ByteArray.size_append <| ai @z1 <| ai @z2 <| ai @z3 <| ai @z4 <| ai @z5 <| ai @z6 <| ai @z7 <| @z9); repeat' (first | refine zS ?_ | exact zE | with_reducible apply And.intro | with_reducible exact zB0 | with_reducible refine zB fun hb => ?_ | exact zC | refine zT ?_ | fail))
      | _ => exfalso; omega
theorem c_exT4 (a : EI) (l : List ET) (hk : a.kind = 15 ∨ a.kind = 16 ∨ a.kind = 17 ∨ a.kind = 18 ∨ a.kind = 19) (ok : okT (.mk a l)) (g : All goN (.mk a l)) (hz : (Arb.mk a l).size ≤ 1000) (ih : ∀ x : ET, x.size < (Arb.mk a l).size → okT x → All goN x → XT x) : XT (.mk a l) := by
  have ok1 := ok.kid
  have g1 := g.kid
  have hs := g.root.s
  have hll : l.length ≤ 1000 := by have := sizeL_len l; rw [size_mk] at hz; omega
  have ihk : ∀ x ∈ l, XT x := fun x hx => ih x (size_lt hx) (ok1 x hx) (g1 x hx)
  have v := ok.root.v
  unfold XT
  rw [exE_mk]
  refine FCon.intro PM _ Tryz.func44 (by kernel_rfl) rfl _ Tryz.ntmps44 rfl [(18, 26, [], [], (lin [] [0, 1, 2, 3, 4, 5, 6, 7, 8, 9, 10, 11, 12, 13, 14, 15, 16, 17, 18, 19, 20, 21, 22, 23, 24, 25])), (19, 9, [], [], (lin [] [0, 1, 2, 3, 4, 5, 6, 7, 8])), (21, 9, [], [], (lin [] [0, 1, 2, 3, 4, 5, 6, 7, 8])), (25, 8, [], [], (lin [] [0, 1, 2, 3, 4, 5, 6, 7])), (26, 8, [], [], (lin [] [0, 1, 2, 3, 4, 5, 6, 7])), (28, 14, [], [], (lin [] [0, 1, 2, 3, 4, 5, 6, 7, 8, 9, 10, 11, 12, 13])), (30, 34, [], [], (lin [] [0, 1, 2, 3, 4, 5, 6, 7, 8, 9, 10, 11, 12, 13, 14, 15, 16, 17, 18, 19, 20, 21, 22, 23, 24, 25, 26, 27, 28, 29, 30, 31, 32, 33])), (32, 13, [], [], (lin [] [0, 1, 2, 3, 4, 5, 6, 7, 8, 9, 10, 11, 12])), (34, 14, [], [], (lin [] [0, 1, 2, 3, 4, 5, 6, 7, 8, 9, 10, 11, 12, 13])), (36, 8, [], [], (lin [] [0, 1, 2, 3, 4, 5, 6, 7])), (42, 11, [], [], (lin [] [0, 1, 2, 3, 4, 5, 6, 7, 8, 9, 10])), (44, 7, [], [], (lin [] [0, 1, 2, 3, 4, 5, 6])), (48, 14, [], [], (lin [] [0, 1, 2, 3, 4, 5, 6, 7, 8, 9, 10, 11, 12, 13])), (54, 8, [], [], (lin [] [0, 1, 2, 3, 4, 5, 6, 7])), (56, 8, [], [], (lin [] [0, 1, 2, 3, 4, 5, 6, 7]))] (by decide +kernel) (by simp) (by simp) rfl (by first | rfl | simp only [go_sem]) ?_
  (have hWf := f0; repeat' (first | refine zS ?_ | exact zE | with_reducible apply And.intro | with_reducible exact zB0 | with_reducible refine zB fun hb => ?_ | exact zC | refine zT ?_ | fail))
  refine AC_loop (fun n σ => ∃ k : Nat, k ≤ l.length ∧ n = l.length - k ∧ σ.t 0 = .pt [.s (.int .i64 a.kind), .s (.int .i64 a.at_), .s (.int .i64 a.n), .s (.string a.s), .sl 1 (l.map exS), .sl 1 (a.pats.map MPat.enc)] ∧ σ.t 3 = .bs 10 1 k ∧ σ.t 14 = .sl 1 (l.map exS) ∧ σ.t 15 = .s (.int .i64 l.length) ∧ σ.t 16 = .s (.int .i64 k) ∧ σ.b 10 = some (.arr 9 1 ((l.take k).map etR))) l.length ⟨0, by omega, by omega, ?_⟩ ?_
  · simp only [go_sem, simprocAttr, Int.natCast_zero, List.take_zero]
  · rintro n σ ⟨k, hk', rfl, h0, h3, h14, h15, h16, b10⟩ K' hK
    by_cases hlt : k < l.length
    · have hx := getD_map exS l k hlt
      have hc := ihk l[k] (List.getElem_mem hlt)
      obtain ⟨b, r, hbr⟩ : ∃ b r, l[k] = .mk b r := ⟨_, _, Arb.eta _⟩
      have hex : exS l[k] = [.pt [.s (.int .i64 b.kind), .s (.int .i64 b.at_), .s (.int .i64 b.n), .s (.string b.s), .sl 1 (r.map exS), .sl 1 (b.pats.map MPat.enc)]] := by rw [hbr, exS_m2]
      have hce : exE l[k] = .pt [.s (.int .i64 b.kind), .s (.int .i64 b.at_), .s (.int .i64 b.n), .s (.string b.s), .sl 1 (r.map exS), .sl 1 (b.pats.map MPat.enc)] := by rw [hbr, exE_mk]
      unfold XT at hc
      rw [hce] at hc
      have her := etR_eq l[k]
      have htl : (l.take k).length = k := by rw [List.length_take]; omega
      have hts := List.take_succ_eq_append_getElem hlt
      (have hWf := WFx.mk (ai @h0 <| ai @h3 <| ai @h14 <| ai @h15 <| ai @h16 <| ai @b10 <| ai @hx <| ai @hex <| @htl); repeat' (first | refine zS ?_ | exact zE | with_reducible apply And.intro | refine zK (hc) ?_ | with_reducible exact zB0 | with_reducible refine zB fun hb => ?_ | exact zC | refine zT ?_ | fail))
      refine hK (l.length - (k + 1)) _ (by omega) ⟨k + 1, by omega, rfl, ?_⟩
      simp only [go_sem, simprocAttr, h0, h3, h14, h15, h16, b10, Int.natCast_succ, hts, List.map_append, her]
    · obtain rfl : k = l.length := by omega
      rw [List.take_length] at b10
      clear ihk
      cases v with
      | try_ x y k e =>
        subst e
        simp only [size_mk, sizeL_cons, sizeL_nil] at hz
        have sx := etx_le (ok1 x (by simp)) (g1 x (by simp)) (by omega)
        have sy := etx_le (ok1 y (by simp)) (g1 y (by simp)) (by omega)
        rw [etx_try k]
        clear ih ok ok1 g g1
        (have hWf := WFx.mk (ai @h0 <| ai @h3 <| ai @h14 <| ai @h15 <| ai @h16 <| ai @b10 <| ai @k <| ai @etR_eq <| ai @ByteArray.size_append <| ai @z1 <| ai @z2 <| ai @z3 <| ai @z4 <| ai @z5 <| ai @z6 <| ai @z7 <| @z9); repeat' (first | refine zS ?_ | exact zE | with_reducible apply And.intro | with_reducible exact zB0 | with_reducible refine zB fun hb => ?_ | exact zC | refine zT ?_ | fail))
      | ref x k e =>
        subst e
        simp only [size_mk, sizeL_cons, sizeL_nil] at hz
        have sx := etx_le (ok1 x (by simp)) (g1 x (by simp)) (by omega)
        rw [etx_ref k]
        clear ih ok ok1 g g1
        (have hWf := WFx.mk (ai @h0 <| ai @h3 <| ai @h14 <| ai @h15 <| ai @h16 <| ai @b10 <| ai @k <| ai @etR_eq <| ai @ByteArray.size_append <| ai @z1 <| ai @z2 <| ai @z3 <| ai @z4 <| ai @z5 <| ai @z6 <| ai @z7 <| @z9); repeat' (first | refine zS ?_ | exact zE | with_reducible apply And.intro | with_reducible exact zB0 | with_reducible refine zB fun hb => ?_ | exact zC | refine zT ?_ | fail))
      | get x k e =>
        subst e
        simp only [size_mk, sizeL_cons, sizeL_nil] at hz
        have sx := etx_le (ok1 x (by simp)) (g1 x (by simp)) (by omega)
        rw [etx_get k]
        clear ih ok ok1 g g1
        (have hWf := WFx.mk (ai @h0 <| ai @h3 <| ai @h14 <| ai @h15 <| ai @h16 <| ai @b10 <| ai @k <| ai @etR_eq <| ai @ByteArray.size_append <| ai @z1 <| ai @z2 <| ai @z3 <| ai @z4 <| ai @z5 <| ai @z6 <| ai @z7 <| @z9); repeat' (first | refine zS ?_ | exact zE | with_reducible apply And.intro | with_reducible exact zB0 | with_reducible refine zB fun hb => ?_ | exact zC | refine zT ?_ | fail))
      | set x y k e =>
        subst e
        simp only [size_mk, sizeL_cons, sizeL_nil] at hz
        have sx := etx_le (ok1 x (by simp)) (g1 x (by simp)) (by omega)
        have sy := etx_le (ok1 y (by simp)) (g1 y (by simp)) (by omega)
        rw [etx_set k]
        clear ih ok ok1 g g1
        (have hWf := WFx.mk (ai @h0 <| ai @h3 <| ai @h14 <| ai @h15 <| ai @h16 <| ai @b10 <| ai @k <| ai @etR_eq <| ai @ByteArray.size_append <| ai @z1 <| ai @z2 <| ai @z3 <| ai @z4 <| ai @z5 <| ai @z6 <| ai @z7 <| @z9); repeat' (first | refine zS ?_ | exact zE | with_reducible apply And.intro | with_reducible exact zB0 | with_reducible refine zB fun hb => ?_ | exact zC | refine zT ?_ | fail))
      | seq x y k e =>
        subst e
        simp only [size_mk, sizeL_cons, sizeL_nil] at hz
        have sx := etx_le (ok1 x (by simp)) (g1 x (by simp)) (by omega)
        have sy := etx_le (ok1 y (by simp)) (g1 y (by simp)) (by omega)
        rw [etx_seq k]
        clear ih ok ok1 g g1
        (have hWf := WFx.mk (ai @h0 <| ai @h3 <| ai @h14 <| ai @h15 <| ai @h16 <| ai @b10 <| ai @k <| ai @etR_eq <| ai @ByteArray.size_append <| ai @z1 <| ai @z2 <| ai @z3 <| ai @z4 <| ai @z5 <| ai @z6 <| ai @z7 <| @z9); repeat' (first | refine zS ?_ | exact zE | with_reducible apply And.intro | with_reducible exact zB0 | with_reducible refine zB fun hb => ?_ | exact zC | refine zT ?_ | fail))
      | _ => exfalso; omega
theorem c_exT5 (a : EI) (l : List ET) (hk : a.kind = 13) (ok : okT (.mk a l)) (g : All goN (.mk a l)) (hz : (Arb.mk a l).size ≤ 1000) (ih : ∀ x : ET, x.size < (Arb.mk a l).size → okT x → All goN x → XT x) : XT (.mk a l) := by
  have ok1 := ok.kid
  have g1 := g.kid
  have hs := g.root.s
  have hll : l.length ≤ 1000 := by have := sizeL_len l; rw [size_mk] at hz; omega
  have ihk : ∀ x ∈ l, XT x := fun x hx => ih x (size_lt hx) (ok1 x hx) (g1 x hx)
  have v := ok.root.v
  unfold XT
  rw [exE_mk]
  refine FCon.intro PM _ Tryz.func44 (by kernel_rfl) rfl _ Tryz.ntmps44 rfl [(18, 26, [], [], (lin [] [0, 1, 2, 3, 4, 5, 6, 7, 8, 9, 10, 11, 12, 13, 14, 15, 16, 17, 18, 19, 20, 21, 22, 23, 24, 25])), (19, 9, [], [], (lin [] [0, 1, 2, 3, 4, 5, 6, 7, 8])), (21, 9, [], [], (lin [] [0, 1, 2, 3, 4, 5, 6, 7, 8])), (25, 8, [], [], (lin [] [0, 1, 2, 3, 4, 5, 6, 7])), (26, 8, [], [], (lin [] [0, 1, 2, 3, 4, 5, 6, 7])), (28, 14, [], [], (lin [] [0, 1, 2, 3, 4, 5, 6, 7, 8, 9, 10, 11, 12, 13])), (30, 34, [], [], (lin [] [0, 1, 2, 3, 4, 5, 6, 7, 8, 9, 10, 11, 12, 13, 14, 15, 16, 17, 18, 19, 20, 21, 22, 23, 24, 25, 26, 27, 28, 29, 30, 31, 32, 33])), (32, 13, [], [], (lin [] [0, 1, 2, 3, 4, 5, 6, 7, 8, 9, 10, 11, 12])), (34, 14, [], [], (lin [] [0, 1, 2, 3, 4, 5, 6, 7, 8, 9, 10, 11, 12, 13])), (36, 8, [], [], (lin [] [0, 1, 2, 3, 4, 5, 6, 7])), (42, 11, [], [], (lin [] [0, 1, 2, 3, 4, 5, 6, 7, 8, 9, 10])), (44, 7, [], [], (lin [] [0, 1, 2, 3, 4, 5, 6])), (48, 14, [], [], (lin [] [0, 1, 2, 3, 4, 5, 6, 7, 8, 9, 10, 11, 12, 13])), (54, 8, [], [], (lin [] [0, 1, 2, 3, 4, 5, 6, 7])), (56, 8, [], [], (lin [] [0, 1, 2, 3, 4, 5, 6, 7]))] (by decide +kernel) (by simp) (by simp) rfl (by first | rfl | simp only [go_sem]) ?_
  (have hWf := f0; repeat' (first | refine zS ?_ | exact zE | with_reducible apply And.intro | with_reducible exact zB0 | with_reducible refine zB fun hb => ?_ | exact zC | refine zT ?_ | fail))
  refine AC_loop (fun n σ => ∃ k : Nat, k ≤ l.length ∧ n = l.length - k ∧ σ.t 0 = .pt [.s (.int .i64 a.kind), .s (.int .i64 a.at_), .s (.int .i64 a.n), .s (.string a.s), .sl 1 (l.map exS), .sl 1 (a.pats.map MPat.enc)] ∧ σ.t 3 = .bs 10 1 k ∧ σ.t 14 = .sl 1 (l.map exS) ∧ σ.t 15 = .s (.int .i64 l.length) ∧ σ.t 16 = .s (.int .i64 k) ∧ σ.b 10 = some (.arr 9 1 ((l.take k).map etR))) l.length ⟨0, by omega, by omega, ?_⟩ ?_
  · simp only [go_sem, simprocAttr, Int.natCast_zero, List.take_zero]
  · rintro n σ ⟨k, hk', rfl, h0, h3, h14, h15, h16, b10⟩ K' hK
    by_cases hlt : k < l.length
    · have hx := getD_map exS l k hlt
      have hc := ihk l[k] (List.getElem_mem hlt)
      obtain ⟨b, r, hbr⟩ : ∃ b r, l[k] = .mk b r := ⟨_, _, Arb.eta _⟩
      have hex : exS l[k] = [.pt [.s (.int .i64 b.kind), .s (.int .i64 b.at_), .s (.int .i64 b.n), .s (.string b.s), .sl 1 (r.map exS), .sl 1 (b.pats.map MPat.enc)]] := by rw [hbr, exS_m2]
      have hce : exE l[k] = .pt [.s (.int .i64 b.kind), .s (.int .i64 b.at_), .s (.int .i64 b.n), .s (.string b.s), .sl 1 (r.map exS), .sl 1 (b.pats.map MPat.enc)] := by rw [hbr, exE_mk]
      unfold XT at hc
      rw [hce] at hc
      have her := etR_eq l[k]
      have htl : (l.take k).length = k := by rw [List.length_take]; omega
      have hts := List.take_succ_eq_append_getElem hlt
      (have hWf := WFx.mk (ai @h0 <| ai @h3 <| ai @h14 <| ai @h15 <| ai @h16 <| ai @b10 <| ai @hx <| ai @hex <| @htl); repeat' (first | refine zS ?_ | exact zE | with_reducible apply And.intro | refine zK (hc) ?_ | with_reducible exact zB0 | with_reducible refine zB fun hb => ?_ | exact zC | refine zT ?_ | fail))
      refine hK (l.length - (k + 1)) _ (by omega) ⟨k + 1, by omega, rfl, ?_⟩
      simp only [go_sem, simprocAttr, h0, h3, h14, h15, h16, b10, Int.natCast_succ, hts, List.map_append, her]
    · obtain rfl : k = l.length := by omega
      rw [List.take_length] at b10
      clear ihk
      cases v with
      | mat x r k e hpl hr1 =>
        subst e
        simp only [size_mk, sizeL_cons] at hz
        have sx := etx_le (ok1 x (by simp)) (g1 x (by simp)) (by omega)
        rw [etx_mat k]
        have hpm := ok.root.pm
        have hq := g.root.q
        have hsr := armsT_size hpm (fun t ht => etx_size t (ok1 t (List.mem_cons_of_mem _ ht)) (goN.strB (g1 t (List.mem_cons_of_mem _ ht)))) hpl
        have hsk := fun (j : Nat) (h : j < r.length) => etx_le (ok1 r[j] (List.mem_cons_of_mem _ (List.getElem_mem h))) (g1 r[j] (List.mem_cons_of_mem _ (List.getElem_mem h))) (by have := size_mem (List.getElem_mem h); omega)
        clear ih ok ok1 g g1
        obtain ⟨L, hL⟩ : ∃ L, L = (a.pats.zip (r.map etx)).map fun p => armT p.1 p.2 := ⟨_, rfl⟩
        have hLn : L.length = a.pats.length := by rw [hL, List.length_map, List.length_zip, List.length_map, hpl, Nat.min_self]
        have hLT : armsT a.pats (r.map etx) = joinB L := by rw [hL]; rfl
        have hLat : ∀ (j : Nat) (h : j < a.pats.length), L[j]'(by omega) = ptT a.pats[j] ++ ⟨#[32, 45, 62, 32]⟩ ++ etx (r[j]'(by omega)) := fun j h => by simp [hL, armT]
        have hLr : ∀ (j : Nat) (h : j < r.length), (([.s (.string (etx x))] : List D) :: r.map etR).getD (j + 1) [] = etR r[j] := fun j h => by rw [List.getD_cons_succ]; exact getD_map etR r j h
        rw [hLT] at hsr ⊢
        clear hL
        have hjz : (joinB L).size ≤ 140737488355328 := by omega
        have hrl := sizeL_len r
        have hj := c_Join L ⟨#[32, 124, 32]⟩ (by omega) hjz
        have hje : joinL L ⟨#[32, 124, 32]⟩ = joinB L := rfl
        rw [hje] at hj
        (have hWf := WFx.mk (ai @h0 <| ai @h3 <| ai @h14 <| ai @h15 <| ai @h16 <| ai @b10 <| ai @k <| @etR_eq); repeat' (first | refine zS ?_ | exact zE | with_reducible apply And.intro | with_reducible exact zB0 | with_reducible refine zB fun hb => ?_ | exact zC | refine zT ?_ | fail))
        refine AC_loop (fun n σ => ∃ j : Nat, j ≤ a.pats.length ∧ n = a.pats.length - j ∧ σ.t 0 = .pt [.s (.int .i64 13), .s (.int .i64 a.at_), .s (.int .i64 a.n), .s (.string a.s), .sl 1 (exS x :: r.map exS), .sl 1 (a.pats.map MPat.enc)] ∧ σ.t 3 = .bs 10 1 (r.length + 1) ∧ σ.b 10 = some (.arr 9 1 ([.s (.string (etx x))] :: r.map etR)) ∧ σ.t 7 = .bs 260 1 j ∧ σ.t 264 = .sl 1 (a.pats.map MPat.enc) ∧ σ.t 265 = .s (.int .i64 a.pats.length) ∧ σ.t 266 = .s (.int .i64 j) ∧ σ.b 260 = some (.arr 9 1 ((L.take j).map stE))) a.pats.length ⟨0, by omega, by omega, ?_⟩ ?_
        · simp only [go_sem, simprocAttr, Int.natCast_zero, List.take_zero, h0, h3, b10, k, List.map_cons, etR_eq]
        · clear h0 h3 h14 h15 h16 b10
          rintro n σ ⟨j, hj', rfl, h0, h3, b10, h7, h264, h265, h266, b260⟩ K' hK
          by_cases hlt : j < a.pats.length
          · have hx := getD_map MPat.enc a.pats j hlt
            have he := MPat.enc_eq a.pats[j]
            have hm := List.getElem_mem hlt
            have hc := c_PrintPatT a.pats[j] (hpm _ hm) (hq _ hm).1 (hq _ hm).2
            rw [he] at hc
            have hsp := ptT_size (hpm _ hm)
            have hl1 := hLr j (by omega)
            have hl2 := etR_eq (r[j]'(by omega))
            have hss := hsk j (by omega)
            have hn1 : ((j : Int) + 1).toNat = j + 1 := by omega
            have htl : (L.take j).length = j := by rw [List.length_take]; omega
            have hts := List.take_succ_eq_append_getElem (show j < L.length by omega)
            rw [hLat j hlt] at hts
            (have hWf := WFx.mk (ai @h0 <| ai @h3 <| ai @h7 <| ai @h264 <| ai @h265 <| ai @h266 <| ai @b10 <| ai @b260 <| ai @hx <| ai @he <| ai @hn1 <| ai @htl <| ai @hl1 <| ai @hl2 <| ai @ByteArray.size_append <| ai @z1 <| ai @z2 <| ai @z3 <| ai @z4 <| ai @z5 <| ai @z6 <| ai @z7 <| @z9); repeat' (first | refine zS ?_ | exact zE | with_reducible apply And.intro | refine zK (hc) ?_ | with_reducible exact zB0 | with_reducible refine zB fun hb => ?_ | exact zC | refine zT ?_ | fail))
            refine hK (a.pats.length - (j + 1)) _ (by omega) ⟨j + 1, by omega, rfl, ?_⟩
            simp only [go_sem, simprocAttr, h0, h3, h7, h264, h265, h266, b10, b260, Int.natCast_succ, hts, List.map_append, stE_eq]
          · obtain rfl : j = a.pats.length := by omega
            rw [← hLn, List.take_length] at b260
            rw [← hLn] at h7
            (have hWf := WFx.mk (ai @h0 <| ai @h3 <| ai @h7 <| ai @h264 <| ai @h265 <| ai @h266 <| ai @b10 <| ai @b260 <| ai @stE_frzS <| ai @ByteArray.size_append <| ai @z1 <| ai @z2 <| ai @z3 <| ai @z4 <| ai @z5 <| ai @z6 <| ai @z7 <| @z9); repeat' (first | refine zS ?_ | exact zE | with_reducible apply And.intro | refine zK (hj) ?_ | with_reducible exact zB0 | with_reducible refine zB fun hb => ?_ | exact zC | refine zT ?_ | fail))
      | _ => exfalso; omega
theorem c_exText : ∀ t : ET, okT t → All goN t → t.size ≤ 1000 → XT t := fun t => by
  induction t using Arb.indS with
  | h t ih =>
    intro ok g hz
    obtain ⟨a, l⟩ := t
    have ih' : ∀ x : ET, x.size < (Arb.mk a l).size → okT x → All goN x → XT x := fun x h1 h2 h3 => ih x h1 h2 h3 (by omega)
    have hk := kind_of ok.root
    rcases (show ((a.kind = 1 ∨ a.kind = 2 ∨ a.kind = 3 ∨ a.kind = 4 ∨ a.kind = 12) ∨ (a.kind = 5 ∨ a.kind = 6 ∨ a.kind = 7 ∨ a.kind = 8) ∨ (a.kind = 9 ∨ a.kind = 10 ∨ a.kind = 11 ∨ a.kind = 14) ∨ (a.kind = 15 ∨ a.kind = 16 ∨ a.kind = 17 ∨ a.kind = 18 ∨ a.kind = 19) ∨ (a.kind = 13)) by omega) with h | h | h | h | h
    · exact c_exT1 a l h ok g hz ih'
    · exact c_exT2 a l h ok g hz ih'
    · exact c_exT3 a l h ok g hz ih'
    · exact c_exT4 a l h ok g hz ih'
    · exact c_exT5 a l h ok g hz ih'
end Go.Proofs.YtahdaknaoogpkaaGreat
