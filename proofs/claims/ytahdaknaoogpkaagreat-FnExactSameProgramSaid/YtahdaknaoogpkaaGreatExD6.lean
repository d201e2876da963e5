import Derived.Test.YtahdaknaoogpkaaGreatExD5
import Derived.Test.YtahdaknaoogpkaaGreatHPrT
/- The text of a right program determines it, but for the places: plain. -/
namespace Go.Proofs.YtahdaknaoogpkaaGreat
set_option linter.unusedVariables false
set_option linter.unusedSimpArgs false
open Arb
theorem ty_pre {xs ys : List TyI} (hx : tyOkM xs = true) (hy : tyOkM ys = true) {r r' : List UInt8} (hr : stopB r) (hr' : stopB r') (h : textT xs xs.length 0 ++ r = textT ys ys.length 0 ++ r') : xs = ys ∧ r = r' := by
  obtain ⟨-, a1, a2⟩ := tyOk_parts hx
  obtain ⟨-, b1, b2⟩ := tyOk_parts hy
  obtain ⟨q, e⟩ := textT_inj a1 b1 xs.length ys.length 0 0 xs.length ys.length a2 b2 (by omega) (by omega) r r' hr hr' h
  exact ⟨by simpa [seg] using q, e⟩
inductive CT (m : List UInt8) : Prop where
  | bar (u : List UInt8) : m = 32 :: 124 :: u → CT m
  | fin (u : List UInt8) : m = 59 :: u → CT m
theorem CT.stop {m : List UInt8} (h : CT m) : stopB m := by
  cases h with
  | bar u e => rw [e]; exact stop32 _
  | fin u e => rw [e]; exact stop59 _
theorem CT.not_of {m u : List UInt8} (h : CT m) : m ≠ 32 :: 111 :: u := by
  intro q
  cases h with
  | bar v e => rw [e] at q; simp at q
  | fin v e => rw [e] at q; simp at q
theorem byte_eq {s t : ByteArray} (h : s.data.toList = t.data.toList) : s = t := by rw [← bs_of s, h, bs_of]
theorem conT_t {c : MCon} (h : c.has = true) (m : List UInt8) : (conT c).data.toList ++ m = c.name.data.toList ++ 32 :: 111 :: 102 :: 32 :: (textT c.arg c.arg.length 0 ++ m) := by unfold conT; rw [if_pos h]; simp [toL_app, toL_bs]
theorem conT_f {c : MCon} (h : c.has = false) (m : List UInt8) : (conT c).data.toList ++ m = c.name.data.toList ++ m := by unfold conT; rw [if_neg (by rw [h]; simp)]
theorem conOk_name {n : Int} {c : MCon} (h : conOkM n c = true) : allWor c.name.data.toList = true := by
  unfold conOkM at h
  simp only [Bool.and_eq_true] at h
  exact (conM_parts h.1).1
theorem conOk_arg {n : Int} {c : MCon} (h : conOkM n c = true) (hb : c.has = false) : c.arg = [] := by
  unfold conOkM at h
  rw [if_neg (by rw [hb]; simp)] at h
  simp only [Bool.and_eq_true, decide_eq_true_eq] at h
  exact List.eq_nil_of_length_eq_zero h.2
theorem con_pre {n n' : Int} {c d : MCon} (hc : conOkM n c = true) (hd : conOkM n' d = true) {m m' : List UInt8} (hm : CT m) (hm' : CT m') (h : (conT c).data.toList ++ m = (conT d).data.toList ++ m') : c = d ∧ m = m' := by
  have w1 := conOk_name hc
  have w2 := conOk_name hd
  cases hb : c.has with
  | true =>
    rw [conT_t hb] at h
    cases hb2 : d.has with
    | true =>
      rw [conT_t hb2] at h
      obtain ⟨e1, e2⟩ := run_split w1 w2 (stop32 _) (stop32 _) h
      simp only [List.cons.injEq, true_and] at e2
      obtain ⟨e3, e4⟩ := ty_pre (conOk_ty hc hb) (conOk_ty hd hb2) hm.stop hm'.stop e2
      refine ⟨?_, e4⟩
      obtain ⟨a, b, x⟩ := c
      obtain ⟨a', b', x'⟩ := d
      obtain rfl := byte_eq e1
      dsimp only at e3 hb hb2
      rw [e3, hb, hb2]
    | false =>
      rw [conT_f hb2] at h
      obtain ⟨e1, e2⟩ := run_split w1 w2 (stop32 _) hm'.stop h
      exact absurd e2.symm hm'.not_of
  | false =>
    rw [conT_f hb] at h
    cases hb2 : d.has with
    | true =>
      rw [conT_t hb2] at h
      obtain ⟨e1, e2⟩ := run_split w1 w2 hm.stop (stop32 _) h
      exact absurd e2 hm.not_of
    | false =>
      rw [conT_f hb2] at h
      obtain ⟨e1, e2⟩ := run_split w1 w2 hm.stop hm'.stop h
      refine ⟨?_, e2⟩
      have x1 := conOk_arg hc hb
      have x2 := conOk_arg hd hb2
      obtain ⟨a, b, x⟩ := c
      obtain ⟨a', b', x'⟩ := d
      obtain rfl := byte_eq e1
      dsimp only at x1 x2 hb hb2
      rw [x1, x2, hb, hb2]
def csL : List MCon → List UInt8
  | [] => []
  | [c] => (conT c).data.toList
  | c :: d :: cs => (conT c).data.toList ++ 32 :: 124 :: 32 :: csL (d :: cs)
theorem csL_eq : ∀ cs : List MCon, (joinB (cs.map conT)).data.toList = csL cs
  | [] => rfl
  | [c] => by
    unfold joinB csL
    rw [List.map_cons, List.map_nil, List.map_cons, List.map_nil, Lib.join_one, toL_bs]
  | c :: d :: cs => by
    have ih := csL_eq (d :: cs)
    unfold csL
    rw [← ih]
    unfold joinB
    simp only [toL_bs, List.map_cons, Lib.join_cons]
    unfold Lib.joinTail
    simp
theorem cs_pre {n n' : Int} : ∀ (cs ds : List MCon), 1 ≤ cs.length → 1 ≤ ds.length → (∀ c ∈ cs, conOkM n c = true) → (∀ c ∈ ds, conOkM n' c = true) → ∀ r r' : List UInt8, csL cs ++ 59 :: r = csL ds ++ 59 :: r' → cs = ds ∧ r = r'
  | [], _, h, _, _, _, _, _, _ => by simp at h
  | _, [], _, h, _, _, _, _, _ => by simp at h
  | [c], [d], _, _, hc, hd, r, r', h => by
    unfold csL at h
    obtain ⟨e1, e2⟩ := con_pre (hc c (by simp)) (hd d (by simp)) (.fin _ rfl) (.fin _ rfl) h
    exact ⟨by rw [e1], (List.cons.inj e2).2⟩
  | [c], d :: d2 :: ds, _, _, hc, hd, r, r', h => by
    unfold csL at h
    rw [List.append_assoc] at h
    obtain ⟨e1, e2⟩ := con_pre (hc c (by simp)) (hd d (by simp)) (.fin _ rfl) (.bar _ rfl) h
    simp at e2
  | c :: c2 :: cs, [d], _, _, hc, hd, r, r', h => by
    unfold csL at h
    rw [List.append_assoc] at h
    obtain ⟨e1, e2⟩ := con_pre (hc c (by simp)) (hd d (by simp)) (.bar _ rfl) (.fin _ rfl) h
    simp at e2
  | c :: c2 :: cs, d :: d2 :: ds, _, _, hc, hd, r, r', h => by
    unfold csL at h
    rw [List.append_assoc, List.append_assoc] at h
    obtain ⟨e1, e2⟩ := con_pre (hc c (by simp)) (hd d (by simp)) (.bar _ rfl) (.bar _ rfl) h
    have e2 : 32 :: 124 :: 32 :: (csL (c2 :: cs) ++ 59 :: r) = 32 :: 124 :: 32 :: (csL (d2 :: ds) ++ 59 :: r') := e2
    simp only [List.cons.injEq, true_and] at e2
    obtain ⟨e3, e4⟩ := cs_pre (c2 :: cs) (d2 :: ds) (by simp) (by simp) (fun x hx => hc x (List.mem_cons_of_mem _ hx)) (fun x hx => hd x (List.mem_cons_of_mem _ hx)) r r' e2
    exact ⟨by rw [e1, e3], e4⟩
structure TyH (t : MType) : Prop where
  g : TyG t
  n : nameM t.name = true
  c1 : 1 ≤ t.cons.length
theorem typeM_h {t : MType} (h : typeM t = true) : TyH t := by
  have g := typeM_g h
  unfold typeM at h
  simp only [Bool.and_eq_true, decide_eq_true_eq, List.all_eq_true] at h
  exact ⟨g, h.1.1.1.1.1, h.1.1.2⟩
theorem typT_l (t : MType) (r : List UInt8) : (typT t).data.toList ++ r = 116 :: 121 :: 112 :: 101 :: 32 :: ((preT t.params).data.toList ++ (t.name.data.toList ++ 32 :: 61 :: 32 :: (csL t.cons ++ 59 :: 32 :: r))) := by
  unfold typT; rw [← csL_eq]; simp [toL_app]
theorem pre_inj {p q : Int} (hp : p = 0 ∨ p = 1 ∨ p = 2) (hq : q = 0 ∨ q = 1 ∨ q = 2) {c d : UInt8} (hc : lowB c = true) (hd : lowB d = true) {m m' : List UInt8} (h : (preT p).data.toList ++ c :: m = (preT q).data.toList ++ d :: m') : p = q ∧ c :: m = d :: m' := by
  have e0 : (preT 0).data.toList = [] := rfl
  have e1 : (preT 1).data.toList = [39, 97, 32] := rfl
  have e2 : (preT 2).data.toList = [40, 39, 97, 44, 32, 39, 98, 41, 32] := rfl
  have k : ∀ b : UInt8, lowB b = true → b ≠ 39 ∧ b ≠ 40 := fun b hb => ⟨fun e => by subst e; revert hb; decide, fun e => by subst e; revert hb; decide⟩
  rcases hp with rfl | rfl | rfl <;> rcases hq with rfl | rfl | rfl <;> (first | rw [e0] at h | skip) <;> (first | rw [e1] at h | skip) <;> (first | rw [e2] at h | skip)
  · exact ⟨rfl, h⟩
  · exact absurd (List.cons.inj h).1 (k c hc).1
  · exact absurd (List.cons.inj h).1 (k c hc).2
  · exact absurd (List.cons.inj h).1.symm (k d hd).1
  · exact ⟨rfl, List.append_cancel_left h⟩
  · exact absurd (List.cons.inj h).1 (by decide)
  · exact absurd (List.cons.inj h).1.symm (k d hd).2
  · exact absurd (List.cons.inj h).1 (by decide)
  · exact ⟨rfl, List.append_cancel_left h⟩
theorem typ_pre {t u : MType} (ht : TyH t) (hu : TyH u) {r r' : List UInt8} (h : (typT t).data.toList ++ r = (typT u).data.toList ++ r') : t = u ∧ r = r' := by
  rw [typT_l, typT_l] at h
  simp only [List.cons.injEq, true_and] at h
  obtain ⟨w1, c, m, e1, l1⟩ := lowName_of ht.n
  obtain ⟨w2, d, m', e2, l2⟩ := lowName_of hu.n
  rw [e1, e2, List.cons_append, List.cons_append] at h
  obtain ⟨q1, q2⟩ := pre_inj ht.g.p hu.g.p l1 l2 h
  have q2 : t.name.data.toList ++ 32 :: 61 :: 32 :: (csL t.cons ++ 59 :: 32 :: r) = u.name.data.toList ++ 32 :: 61 :: 32 :: (csL u.cons ++ 59 :: 32 :: r') := by rw [e1, e2]; exact q2
  obtain ⟨q3, q4⟩ := run_split w1 w2 (stop32 _) (stop32 _) q2
  simp only [List.cons.injEq, true_and] at q4
  obtain ⟨q5, q6⟩ := cs_pre t.cons u.cons ht.c1 hu.c1 ht.g.c hu.g.c _ _ q4
  refine ⟨?_, (List.cons.inj q6).2⟩
  obtain ⟨a, b, x⟩ := t
  obtain ⟨a', b', x'⟩ := u
  obtain rfl := byte_eq q3
  dsimp only at q1 q5
  rw [q1, q5]
noncomputable def tysL (ts : List MType) : List UInt8 := ts.flatMap fun t => (typT t).data.toList
theorem tysL_eq (ts : List MType) : (outT ts).data.toList = tysL ts := by
  have : ∀ (ts : List MType) (o : ByteArray), (ts.foldl (fun o t => o ++ typT t) o).data.toList = o.data.toList ++ tysL ts := fun ts => by
    induction ts with
    | nil => intro o; simp [tysL]
    | cons t ts ih => intro o; rw [List.foldl_cons, ih]; simp [tysL, toL_app]
  exact this ts ⟨#[]⟩
theorem etx_no_type {t : ET} (ok : okT t) (u : List UInt8) : (etx t).data.toList ≠ 116 :: 121 :: 112 :: 101 :: 32 :: u := by
  intro q
  cases etx_tk ok with
  | br v e => rw [e] at q; simp at q
  | qu v e => rw [e] at q; simp at q
  | ls e => rw [e] at q; simp at q
  | wo c v hw =>
    rw [q] at hw
    unfold allWor at hw
    simp [worB, worI, lowI, uppI, digI] at hw
theorem prog_inj : ∀ (ts us : List MType) (t u : ET), (∀ x ∈ ts, TyH x) → (∀ x ∈ us, TyH x) → okT t → okT u → tysL ts ++ (etx t).data.toList = tysL us ++ (etx u).data.toList → ts = us ∧ er t = er u
  | [], [], t, u, _, _, o1, o2, h => ⟨rfl, etx_inj o1 o2 (byte_eq h)⟩
  | [], y :: us, t, u, _, _, o1, o2, h => by
    unfold tysL at h
    rw [List.flatMap_nil, List.nil_append, List.flatMap_cons, List.append_assoc, typT_l] at h
    exact absurd h (etx_no_type o1 _)
  | x :: ts, [], t, u, _, _, o1, o2, h => by
    unfold tysL at h
    rw [List.flatMap_nil, List.nil_append, List.flatMap_cons, List.append_assoc, typT_l] at h
    exact absurd h.symm (etx_no_type o2 _)
  | x :: ts, y :: us, t, u, h1, h2, o1, o2, h => by
    unfold tysL at h
    rw [List.flatMap_cons, List.flatMap_cons, List.append_assoc, List.append_assoc] at h
    obtain ⟨e1, e2⟩ := typ_pre (h1 x (by simp)) (h2 y (by simp)) h
    obtain ⟨e3, e4⟩ := prog_inj ts us t u (fun z hz => h1 z (List.mem_cons_of_mem _ hz)) (fun z hz => h2 z (List.mem_cons_of_mem _ hz)) o1 o2 e2
    exact ⟨by rw [e1, e3], e4⟩
theorem etx_er : ∀ t : ET, ek (er t) = ek t := fun t => by
  induction t using Arb.ind with
  | h a l ih =>
    have e1 : (l.map er).map ek = l.map ek := by rw [List.map_map]; exact List.map_congr_left ih
    have e2 : (l.map er).map etx = l.map etx := by rw [List.map_map]; exact List.map_congr_left fun x hx => by show (ek (er x)).t = (ek x).t; rw [ih x hx]
    rw [er_mk, ek_mk, ek_mk, e1, e2, List.length_map]
    rfl
theorem progT_iff {p q : MProgram} {t u : ET} (h1 : ∀ x ∈ p.types, TyH x) (h2 : ∀ x ∈ q.types, TyH x) (o1 : okT t) (o2 : okT u) : progT p t = progT q u ↔ p.types = q.types ∧ er t = er u := by
  constructor
  · intro h
    have h := congrArg (fun s : ByteArray => s.data.toList) h
    unfold progT at h
    simp only [toL_app, tysL_eq] at h
    exact prog_inj _ _ _ _ h1 h2 o1 o2 h
  · rintro ⟨h, e⟩
    unfold progT
    rw [h]
    have : etx t = etx u := by
      have := congrArg ek e
      rw [etx_er, etx_er] at this
      exact congrArg KT.t this
    rw [this]
end Go.Proofs.YtahdaknaoogpkaaGreat
