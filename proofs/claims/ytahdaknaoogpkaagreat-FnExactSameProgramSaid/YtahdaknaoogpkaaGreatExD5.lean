import Derived.Test.YtahdaknaoogpkaaGreatExD4
/- The decoder reads the text of a right expression: plain. Printed by exd5.py. -/
namespace Go.Proofs.YtahdaknaoogpkaaGreat
set_option linter.unusedVariables false
set_option linter.unusedSimpArgs false
open Arb
theorem ei_eq {a : EI} {k n : Int} {s : ByteArray} {q : List MPat} (h1 : a.kind = k) (h2 : a.n = n) (h3 : a.s = s) (h4 : a.pats = q) {l : List ET} : er (.mk a l) = .mk ⟨k, 0, n, s, q⟩ (l.map er) := by
  rw [er_mk, h1, h2, h3, h4]
theorem mp_eq (q : MPat) : (⟨q.nodes⟩ : MPat) = q := by cases q; rfl
theorem dec_ptT {q : MPat} (h : patM q.nodes = true) {r : List UInt8} (hr : stopB r) : decP 1000 ((ptT q).data.toList ++ r) = some (ptree q.nodes, r) := by
  obtain ⟨-, h1, h2⟩ := ptree_spec h
  exact dec_ptx _ h1 1000 (by omega) r hr
noncomputable def arL : List MPat → List ET → List UInt8
  | [], _ => []
  | _, [] => []
  | [q], t :: _ => (ptT q).data.toList ++ 32 :: 45 :: 62 :: 32 :: (etx t).data.toList
  | q :: q2 :: qs, t :: ts => (ptT q).data.toList ++ 32 :: 45 :: 62 :: 32 :: ((etx t).data.toList ++ 32 :: 124 :: 32 :: arL (q2 :: qs) ts)
theorem arL_eq : ∀ (qs : List MPat) (ts : List ET), qs.length = ts.length → (armsT qs (ts.map etx)).data.toList = arL qs ts
  | [], [], _ => by rw [arL]; rfl
  | [q], [t], _ => by
    unfold armsT arL
    show (joinB [armT q (etx t)]).data.toList = _
    unfold joinB
    rw [List.map_cons, List.map_nil, Lib.join_one, toL_bs]
    simp [armT, toL_app]
  | q :: q2 :: qs, t :: t2 :: ts, h => by
    have ih := arL_eq (q2 :: qs) (t2 :: ts) (by simpa using h)
    unfold armsT at ih ⊢
    unfold arL
    rw [← ih]
    unfold joinB
    simp only [toL_bs, List.map_cons, List.zip_cons_cons, Lib.join_cons]
    unfold Lib.joinTail
    simp [armT, toL_app]
theorem dec_arms {dE : List UInt8 → Option (ET × List UInt8)} {r : List UInt8} : ∀ (qs : List MPat) (ts : List ET) (m : Nat), 1 ≤ qs.length → qs.length = ts.length → qs.length ≤ m → (∀ q ∈ qs, patM q.nodes = true) → (∀ t ∈ ts, ∀ r, stopB r → dE ((etx t).data.toList ++ r) = some (er t, r)) →
    decA dE m (arL qs ts ++ 32 :: 101 :: r) = some (qs, ts.map er, 32 :: 101 :: r)
  | [], _, _, h, _, _, _, _ => by simp at h
  | q :: qs, [], _, _, h, _, _, _ => by simp at h
  | q :: qs, t :: ts, m, h1, h2, h3, hp, hd => by
    obtain ⟨m, rfl⟩ : ∃ k, m = k + 1 := ⟨m - 1, by simp at h3; omega⟩
    have hq := hp q (List.mem_cons_self ..)
    have ht := hd t (List.mem_cons_self ..)
    have hz := (ptree_spec hq).1
    cases qs with
    | nil =>
      obtain rfl : ts = [] := List.eq_nil_of_length_eq_zero (by simpa using h2.symm)
      have e : arL [q] [t] ++ 32 :: 101 :: r = (ptT q).data.toList ++ 32 :: 45 :: 62 :: 32 :: ((etx t).data.toList ++ 32 :: 101 :: r) := by unfold arL; simp
      rw [e, decA, dec_ptT hq (stop32 _)]
      simp [ht _ (stop32 _), ← hz]
    | cons q2 qs =>
      have ih := dec_arms (dE := dE) (r := r) (q2 :: qs) ts m (by simp) (by simpa using h2) (by simpa using h3) (fun x hx => hp x (List.mem_cons_of_mem _ hx)) (fun x hx => hd x (List.mem_cons_of_mem _ hx))
      have e : arL (q :: q2 :: qs) (t :: ts) ++ 32 :: 101 :: r = (ptT q).data.toList ++ 32 :: 45 :: 62 :: 32 :: ((etx t).data.toList ++ 32 :: 124 :: 32 :: (arL (q2 :: qs) ts ++ 32 :: 101 :: r)) := by
        conv => lhs; unfold arL
        simp
      rw [e, decA, dec_ptT hq (stop32 _)]
      simp [ht _ (stop32 _), ← hz, ih]
theorem tw_sep (o : List UInt8) (ho : o.all (fun b => b != 32) = true) (m : List UInt8) : (o ++ 32 :: m).takeWhile (fun b => b != 32) = o := (tw_app (p := fun b => b != 32) ho (by decide)).1
theorem sep_not {L m : List UInt8} (T : TxK L) : (L ++ m).takeWhile (fun b => b != 32) ≠ [58, 58] ∧ (L ++ m).takeWhile (fun b => b != 32) ≠ [58, 61] ∧ ((L ++ m).takeWhile fun b => b != 32) ∉ primL := by
  obtain ⟨c, u, e, h⟩ := T.hd
  have h32 : c ≠ 32 := fun q => h (by subst q; decide)
  have e2 : (L ++ m).takeWhile (fun b => b != 32) = c :: ((u ++ m).takeWhile fun b => b != 32) := by
    rw [e, List.cons_append, List.takeWhile_cons, if_pos (by simpa using h32)]
  rw [e2]
  have k : ∀ d ∈ noL, c ≠ d := fun d hd q => h (q ▸ hd)
  refine ⟨fun q => k 58 (by decide) (List.cons.inj q).1, fun q => k 58 (by decide) (List.cons.inj q).1, ?_⟩
  intro hm
  unfold primL at hm
  simp only [List.mem_cons, List.not_mem_nil, or_false, List.cons.injEq] at hm
  rcases hm with q | q | q | q | q | q | q | q | q | q <;> exact k _ (by decide) q.1
theorem prim_o {s : ByteArray} (h : primM s = true) : primL.contains s.data.toList = true ∧ s.data.toList.all (fun b => b != 32) = true ∧ s.data.toList ≠ [58, 58] ∧ s.data.toList ≠ [58, 61] := by
  unfold primM at h
  rw [List.any_eq_true] at h
  obtain ⟨l, hl, e⟩ := h
  rw [beq_iff_eq, ByteArray.toList_eq] at e
  rw [e]
  unfold primL at hl ⊢
  simp only [List.mem_cons, List.not_mem_nil, or_false] at hl
  rcases hl with rfl | rfl | rfl | rfl | rfl | rfl | rfl | rfl | rfl | rfl <;> decide
theorem cls_g {t : ET} (ok : okT t) {c : UInt8} {m : List UInt8} (hc : p2 c = false) (hw : worB c = false) (h41 : c ≠ 41) : cls ((etx t).data.toList ++ c :: m) = 0 := by
  have T := etx_tk ok
  obtain ⟨d, u, e, h⟩ := T.hd
  rw [cls_of (c := d) (u := u ++ c :: m) (by rw [e]; rfl) h (wd_tk T hw), pc_tx ok hc h41, if_neg (by simp)]
theorem con_ok {s : ByteArray} (h : shapeM s 0 false = true) : okT (.mk ⟨4, 0, 0, s, []⟩ []) := .mk ⟨.con0 rfl rfl h, Int.le_refl 0, .inr rfl, .inr rfl, by simp⟩ (by simp)
theorem con_tx (s : ByteArray) : etx (.mk ⟨4, 0, 0, s, []⟩ []) = s := etx_con0 rfl
theorem dec_con {s : ByteArray} (h : shapeM s 0 false = true) (n : Nat) {r : List UInt8} (hr : stopB r) : decE (n + 1) (s.data.toList ++ r) = some (mkE 4 0 s.data.toList [], r) := by
  by_cases h5 : s.data.toList = [91, 93]
  · rw [h5]; rfl
  · obtain ⟨hk, hw⟩ := wk_con h h5
    cases tk_con h with
    | br u e => exact absurd rfl (con_hd h h5 e).2.2.2
    | qu u e => rw [e] at hw; exact absurd hw (by unfold allWor; simp [worB, worI, lowI, uppI, digI])
    | ls e => exact absurd e h5
    | wo c u _ e q1 q2 q3 =>
      rw [decE_word hw e q1 q2 q3 hr]
      unfold wordE
      rw [hk, if_neg (by decide), if_neg (by decide)]
theorem cls_p {s : ByteArray} (h : shapeM s 0 false = true) (m : List UInt8) : cls (40 :: (s.data.toList ++ 41 :: m)) = 6 ∧ wd2 (s.data.toList ++ 41 :: m) = s.data.toList ∧ af2 (s.data.toList ++ 41 :: m) = 41 :: m := by
  have hp : s.data.toList.all p2 = true ∧ s.data.toList ≠ [] := by
    cases tk_con h with
    | br u e =>
      by_cases h5 : s.data.toList = [91, 93]
      · rw [h5]; decide
      · exact absurd rfl (con_hd h h5 e).2.2.2
    | qu u e =>
      by_cases h5 : s.data.toList = [91, 93]
      · rw [h5]; decide
      · have := (wk_con h h5).2
        rw [e] at this; exact absurd this (by unfold allWor; simp [worB, worI, lowI, uppI, digI])
    | ls e => rw [e]; decide
    | wo c u hw e => exact ⟨wor_p2 hw, by rw [e]; simp⟩
  obtain ⟨w1, w2⟩ := tw_app (p := p2) hp.1 (c := 41) (m := m) (by decide)
  have hpc : pc (40 :: (s.data.toList ++ 41 :: m)) = true := by
    unfold pc wd2 af2
    have hp3 : s.data.toList.isEmpty = false := by
      cases hl : s.data.toList with
      | nil => exact absurd hl hp.2
      | cons _ _ => rfl
    rw [List.tail_cons, w1, w2, hp3]
    rfl
  refine ⟨?_, w1, w2⟩
  rw [cls_of (c := 40) rfl (by decide) (by rw [wd_nil (by decide)]; decide), hpc, if_pos rfl]
theorem kwd (w : List UInt8) (hw : allWor w = true) (m : List UInt8) : wd (w ++ 32 :: m) = w ∧ af (w ++ 32 :: m) = 32 :: m := ⟨wd_app hw (stop32 m), af_app hw (stop32 m)⟩
theorem dec_etx : ∀ t : ET, okT t → ∀ n, t.size ≤ n → ∀ r, stopB r → decE n ((etx t).data.toList ++ r) = some (er t, r) := fun t => by
  induction t using Arb.indS with
  | h t ih =>
    intro ok n hn r hr
    obtain ⟨a, l⟩ := t
    have ok1 := ok.kid
    have V := ok.root
    have v := V.v
    obtain ⟨n, rfl⟩ : ∃ m, n = m + 1 := ⟨n - 1, by rw [size_mk] at hn; omega⟩
    rw [size_mk] at hn
    have n0 : a.kind ≠ 1 → a.n = 0 := fun h => V.n0.elim (fun q => absurd q h) id
    have p0 : a.kind ≠ 13 → a.pats = [] := fun h => V.p0.elim (fun q => absurd q h) id
    have ihk : ∀ x ∈ l, ∀ r, stopB r → decE n ((etx x).data.toList ++ r) = some (er x, r) := fun x hx r hr => ih x (size_lt hx) (ok1 x hx) n (by have := size_mem hx; omega) r hr
    cases v with
    | int k e h0 h1 hs =>
      subst e
      obtain ⟨c, u, e, hc⟩ := decL_head a.n.toNat
      have q := dig_not hc
      rw [etx_int k, toL_bs, numT_pos (by omega) (by omega), decE_word (decL_word _) e q.2.2.2.2.2.2.1 q.2.2.1 q.2.2.2.2.1 hr, ei_eq k (by omega : a.n = (a.n.toNat : Int)) (s_of hs) (p0 (by omega))]
      unfold wordE
      rw [wk_num, if_pos rfl, dval_dec]; rfl
    | str k e =>
      subst e
      have hd : (quoL a.s.data.toList ++ r).head? = some 34 := rfl
      rw [etx_str k, toL_bs, decE, hd, if_pos rfl, decS_quo, ei_eq k (n0 (by omega)) (bs_of a.s).symm (p0 (by omega))]; rfl
    | var k e h =>
      subst e
      obtain ⟨hw, c, u, e, hc⟩ := lowName_of h
      have q := low_not hc
      rw [etx_var k, decE_word hw e q.2.2.2.2.2.2.1 q.2.2.1 q.2.2.2.2.1 hr, ei_eq k (n0 (by omega)) (bs_of a.s).symm (p0 (by omega))]
      unfold wordE
      rw [wk_name h, if_neg (by decide), if_pos rfl]; rfl
    | con0 k e h =>
      subst e
      rw [etx_con0 k, dec_con h n hr, ei_eq k (n0 (by omega)) (bs_of a.s).symm (p0 (by omega))]; rfl
    | unit k e hs =>
      subst e
      rw [etx_unit k, ei_eq k (n0 (by omega)) (s_of hs) (p0 (by omega))]
      show decE (n + 1) (40 :: 41 :: r) = _
      rw [decE_open, show cls (41 :: r) = 12 from rfl, if_pos rfl]; rfl
    | cons b x y k e hb h =>
      subst e
      have Vb := (ok1 (.mk b [x, y]) (by simp)).root
      have ox := (ok1 (.mk b [x, y]) (by simp)).kid x (by simp)
      have oy := (ok1 (.mk b [x, y]) (by simp)).kid y (by simp)
      simp only [sizeL_cons, sizeL_nil, size_mk] at hn
      have h1 := ih x (size_lt2 (r := [x, y]) (by simp) (List.mem_singleton.2 rfl)) ox n (by omega)
      have h2 := ih y (size_lt2 (r := [x, y]) (by simp) (List.mem_singleton.2 rfl)) oy n (by omega) (41 :: r) (stop41 _)
      have hbs : b.s = bs [] := by
        cases Vb.v with
        | pair _ _ k2 e2 s2 => exact s_of s2
        | _ => omega
      have q : (etx (.mk a [.mk b [x, y]])).data.toList ++ r = 40 :: ((etx x).data.toList ++ 32 :: ([58, 58] ++ 32 :: ((etx y).data.toList ++ 41 :: r))) := by rw [etx_cons k h]; simp [toL_app]
      rw [q, decE_open, cls_g ox (by decide) (by decide) (by decide)]
      rw [ei_eq k (n0 (by omega)) (s_of h) (p0 (by omega)), List.map_cons, List.map_nil, ei_eq hb (Vb.n0.elim (fun q => by omega) id) hbs (Vb.p0.elim (fun q => by omega) id)]
      simp [h1 _ (stop32 _), decG, tw_sep [58, 58] (by decide), h2, mkE]
    | con1 x k e h =>
      subst e
      simp only [sizeL_cons, sizeL_nil, size_mk] at hn
      have h2 := ihk x (by simp) (41 :: r) (stop41 _)
      obtain ⟨h3, h5⟩ := wk_conM h
      obtain ⟨n, rfl⟩ : ∃ m, n = m + 1 := ⟨n - 1, by have := size_pos x; omega⟩
      have q : (etx (.mk a [x])).data.toList ++ r = 40 :: (a.s.data.toList ++ 32 :: ((etx x).data.toList ++ 41 :: r)) := by rw [etx_con1 k (conM_ne58 h)]; simp [toL_app]
      have hc := cls_g (con_ok h3) (c := 32) (m := (etx x).data.toList ++ 41 :: r) (by decide) (by decide) (by decide)
      rw [con_tx] at hc
      obtain ⟨s1, s2, s3⟩ := sep_not (m := 41 :: r) (etx_tk (ok1 x (by simp)))
      rw [q, decE_open, hc, ei_eq k (n0 (by omega)) rfl (p0 (by omega))]
      simp [dec_con h3 n (stop32 _), decG, s1, s2, s3, h2, mkE, bs_of, a_mk, kids_mk]
    | app x y k e hs =>
      subst e
      have ox := ok1 x (by simp)
      have h1 := ihk x (by simp)
      have h2 := ihk y (by simp) (41 :: r) (stop41 _)
      obtain ⟨s1, s2, s3⟩ := sep_not (m := 41 :: r) (etx_tk (ok1 y (by simp)))
      obtain ⟨b, l⟩ := x
      have Vb := ox.root
      rw [ei_eq k (n0 (by omega)) (s_of hs) (p0 (by omega))]
      by_cases hc : b.kind = 4 ∧ l.length = 0
      · obtain ⟨hc1, hc2⟩ := hc
        obtain rfl := List.eq_nil_of_length_eq_zero hc2
        have hsh : shapeM b.s 0 false = true := by
          cases Vb.v with
          | con0 _ _ h => exact h
          | cons _ _ _ _ e => cases e
          | con1 _ _ e => cases e
          | _ => omega
        have q : (etx (.mk a [.mk b [], y])).data.toList ++ r = 40 :: 40 :: (b.s.data.toList ++ 41 :: (32 :: ((etx y).data.toList ++ 41 :: r))) := by rw [etx_appc k hc1, etx_con0 hc1]; simp [toL_app]
        obtain ⟨c1, c2, c3⟩ := cls_p hsh (32 :: ((etx y).data.toList ++ 41 :: r))
        rw [q, decE_open, c1, List.map_cons, ei_eq hc1 (Vb.n0.elim (fun q => by omega) id) (bs_of b.s).symm (Vb.p0.elim (fun q => by omega) id)]
        simp [c2, c3, h2, mkE]
      · have q : (etx (.mk a [.mk b l, y])).data.toList ++ r = 40 :: ((etx (.mk b l)).data.toList ++ 32 :: ((etx y).data.toList ++ 41 :: r)) := by rw [etx_app k hc]; simp [toL_app]
        have hne : ¬ ((er (.mk b l)).a.kind = 4 ∧ (er (.mk b l)).kids = []) := by rw [er_mk, a_mk, kids_mk]; intro q; exact hc ⟨q.1, by have := congrArg List.length q.2; rwa [List.length_map] at this⟩
        rw [q, decE_open, cls_g ox (by decide) (by decide) (by decide)]
        rw [List.map_cons, List.map_cons, List.map_nil]
        generalize er (.mk b l) = X at *
        simp [h1 _ (stop32 _), decG, s1, s2, s3, h2, mkE, hne]
    | pair x y k e hs =>
      subst e
      have h1 := ihk x (by simp)
      have h2 := ihk y (by simp) (41 :: r) (stop41 _)
      have q : (etx (.mk a [x, y])).data.toList ++ r = 40 :: ((etx x).data.toList ++ 44 :: 32 :: ((etx y).data.toList ++ 41 :: r)) := by rw [etx_pair k]; simp [toL_app]
      rw [q, decE_open, cls_g (ok1 x (by simp)) (by decide) (by decide) (by decide), ei_eq k (n0 (by omega)) (s_of hs) (p0 (by omega))]
      simp [h1 _ (stop44 _), decG, h2, mkE]
    | seq x y k e hs =>
      subst e
      have h1 := ihk x (by simp)
      have h2 := ihk y (by simp) (41 :: r) (stop41 _)
      have q : (etx (.mk a [x, y])).data.toList ++ r = 40 :: ((etx x).data.toList ++ 59 :: 32 :: ((etx y).data.toList ++ 41 :: r)) := by rw [etx_seq k]; simp [toL_app]
      rw [q, decE_open, cls_g (ok1 x (by simp)) (by decide) (by decide) (by decide), ei_eq k (n0 (by omega)) (s_of hs) (p0 (by omega))]
      simp [h1 _ (stop59 _), decG, h2, mkE]
    | set x y k e hs =>
      subst e
      have h1 := ihk x (by simp)
      have h2 := ihk y (by simp) (41 :: r) (stop41 _)
      have q : (etx (.mk a [x, y])).data.toList ++ r = 40 :: ((etx x).data.toList ++ 32 :: ([58, 61] ++ 32 :: ((etx y).data.toList ++ 41 :: r))) := by rw [etx_set k]; simp [toL_app]
      rw [q, decE_open, cls_g (ok1 x (by simp)) (by decide) (by decide) (by decide), ei_eq k (n0 (by omega)) (s_of hs) (p0 (by omega))]
      simp [h1 _ (stop32 _), decG, tw_sep [58, 61] (by decide), h2, mkE]
    | prim x y k e hp =>
      subst e
      have h1 := ihk x (by simp)
      have h2 := ihk y (by simp) (41 :: r) (stop41 _)
      obtain ⟨o1, o2, o3, o4⟩ := prim_o hp
      have q : (etx (.mk a [x, y])).data.toList ++ r = 40 :: ((etx x).data.toList ++ 32 :: (a.s.data.toList ++ 32 :: ((etx y).data.toList ++ 41 :: r))) := by rw [etx_prim k]; simp [toL_app]
      have hdr : (32 :: (a.s.data.toList ++ 32 :: ((etx y).data.toList ++ 41 :: r))).drop (a.s.data.toList.length + 2) = (etx y).data.toList ++ 41 :: r := by
        rw [show a.s.data.toList.length + 2 = (a.s.data.toList.length + 1) + 1 from rfl, List.drop_succ_cons, ← List.drop_drop, List.drop_left]; rfl
      rw [q, decE_open, cls_g (ok1 x (by simp)) (by decide) (by decide) (by decide), ei_eq k (n0 (by omega)) (bs_of a.s).symm (p0 (by omega))]
      generalize a.s.data.toList = o at *
      have ht := tw_sep o o2 ((etx y).data.toList ++ 41 :: r)
      have hG : decG (decE n) (er x, 32 :: (o ++ 32 :: ((etx y).data.toList ++ 41 :: r))) = some (mkE 10 0 o [er x, er y], r) := by
        unfold decG
        simp only [List.head?_cons, List.tail_cons, ht]
        rw [if_neg (by simp), if_neg (by simp), if_neg o3, if_neg o4, if_pos o1, hdr, h2]; rfl
      simp [h1 _ (stop32 _), hG, mkE]
    | raise x k e hs =>
      subst e
      have h1 := ihk x (by simp)
      have q : (etx (.mk a [x])).data.toList ++ r = 40 :: ([114, 97, 105, 115, 101] ++ 32 :: ((etx x).data.toList ++ 41 :: r)) := by rw [etx_raise k]; simp [toL_app]
      obtain ⟨w1, w2⟩ := kwd [114, 97, 105, 115, 101] (by decide) ((etx x).data.toList ++ 41 :: r)
      have hc : cls ([114, 97, 105, 115, 101] ++ 32 :: ((etx x).data.toList ++ 41 :: r)) = 14 := by unfold cls; rw [w1]; rfl
      rw [q, decE_open, hc, w2, ei_eq k (n0 (by omega)) (s_of hs) (p0 (by omega))]
      simp [h1 _ (stop41 _), mkE]
    | ref x k e hs =>
      subst e
      have h1 := ihk x (by simp)
      have q : (etx (.mk a [x])).data.toList ++ r = 40 :: ([114, 101, 102] ++ 32 :: ((etx x).data.toList ++ 41 :: r)) := by rw [etx_ref k]; simp [toL_app]
      obtain ⟨w1, w2⟩ := kwd [114, 101, 102] (by decide) ((etx x).data.toList ++ 41 :: r)
      have hc : cls ([114, 101, 102] ++ 32 :: ((etx x).data.toList ++ 41 :: r)) = 16 := by unfold cls; rw [w1]; rfl
      rw [q, decE_open, hc, w2, ei_eq k (n0 (by omega)) (s_of hs) (p0 (by omega))]
      simp [h1 _ (stop41 _), mkE]
    | if_ x y z k e hs =>
      subst e
      have h1 := ihk x (by simp)
      have h2 := ihk y (by simp)
      have h3 := ihk z (by simp)
      have q : (etx (.mk a [x, y, z])).data.toList ++ r = 40 :: ([105, 102] ++ 32 :: ((etx x).data.toList ++ 32 :: 116 :: 104 :: 101 :: 110 :: 32 :: ((etx y).data.toList ++ 32 :: 101 :: 108 :: 115 :: 101 :: 32 :: ((etx z).data.toList ++ 41 :: r)))) := by rw [etx_if k]; simp [toL_app]
      obtain ⟨w1, w2⟩ := kwd [105, 102] (by decide) ((etx x).data.toList ++ 32 :: 116 :: 104 :: 101 :: 110 :: 32 :: ((etx y).data.toList ++ 32 :: 101 :: 108 :: 115 :: 101 :: 32 :: ((etx z).data.toList ++ 41 :: r)))
      have hc : cls ([105, 102] ++ 32 :: ((etx x).data.toList ++ 32 :: 116 :: 104 :: 101 :: 110 :: 32 :: ((etx y).data.toList ++ 32 :: 101 :: 108 :: 115 :: 101 :: 32 :: ((etx z).data.toList ++ 41 :: r)))) = 9 := by unfold cls; rw [w1]; rfl
      rw [q, decE_open, hc, w2, ei_eq k (n0 (by omega)) (s_of hs) (p0 (by omega))]
      simp [h1 _ (stop32 _), h2 _ (stop32 _), h3 _ (stop41 _), mkE]
    | get x k e hs =>
      subst e
      have h1 := ihk x (by simp)
      have q : (etx (.mk a [x])).data.toList ++ r = 40 :: 33 :: 32 :: ((etx x).data.toList ++ 41 :: r) := by rw [etx_get k]; simp [toL_app]
      rw [q, decE_open, show cls (33 :: 32 :: ((etx x).data.toList ++ 41 :: r)) = 17 from rfl, ei_eq k (n0 (by omega)) (s_of hs) (p0 (by omega))]
      simp [h1 _ (stop41 _), mkE]
    | func x k e h =>
      subst e
      have h1 := ihk x (by simp)
      have hw := (lowName_of h).1
      have q : (etx (.mk a [x])).data.toList ++ r = 40 :: ([102, 117, 110] ++ 32 :: (a.s.data.toList ++ 32 :: (45 :: 62 :: 32 :: ((etx x).data.toList ++ 41 :: r)))) := by rw [etx_func k]; simp [toL_app]
      obtain ⟨w1, w2⟩ := kwd [102, 117, 110] (by decide) (a.s.data.toList ++ 32 :: (45 :: 62 :: 32 :: ((etx x).data.toList ++ 41 :: r)))
      have hc : cls ([102, 117, 110] ++ 32 :: (a.s.data.toList ++ 32 :: (45 :: 62 :: 32 :: ((etx x).data.toList ++ 41 :: r)))) = 5 := by unfold cls; rw [w1]; rfl
      obtain ⟨w3, w4⟩ := kwd a.s.data.toList hw (45 :: 62 :: 32 :: ((etx x).data.toList ++ 41 :: r))
      rw [q, decE_open, hc, w2, List.tail_cons, w3, w4, ei_eq k (n0 (by omega)) (bs_of a.s).symm (p0 (by omega))]
      simp [h1 _ (stop41 _), mkE]
    | let_ x y k e h =>
      subst e
      have h1 := ihk x (by simp)
      have h2 := ihk y (by simp)
      have hw := (lowName_of h).1
      have q : (etx (.mk a [x, y])).data.toList ++ r = 40 :: ([108, 101, 116] ++ 32 :: (a.s.data.toList ++ 32 :: (61 :: 32 :: ((etx x).data.toList ++ 32 :: 105 :: 110 :: 32 :: ((etx y).data.toList ++ 41 :: r))))) := by rw [etx_let k]; simp [toL_app]
      obtain ⟨w1, w2⟩ := kwd [108, 101, 116] (by decide) (a.s.data.toList ++ 32 :: (61 :: 32 :: ((etx x).data.toList ++ 32 :: 105 :: 110 :: 32 :: ((etx y).data.toList ++ 41 :: r))))
      obtain ⟨w3, w4⟩ := kwd a.s.data.toList hw (61 :: 32 :: ((etx x).data.toList ++ 32 :: 105 :: 110 :: 32 :: ((etx y).data.toList ++ 41 :: r)))
      have hc : cls ([108, 101, 116] ++ 32 :: (a.s.data.toList ++ 32 :: (61 :: 32 :: ((etx x).data.toList ++ 32 :: 105 :: 110 :: 32 :: ((etx y).data.toList ++ 41 :: r))))) = 7 := by
        unfold cls; rw [w1, w2, List.tail_cons, w3, if_neg (kw_of h).2]; rfl
      rw [q, decE_open, hc, w2, List.tail_cons, w3, w4, ei_eq k (n0 (by omega)) (bs_of a.s).symm (p0 (by omega))]
      simp [h1 _ (stop32 _), h2 _ (stop41 _), mkE]
    | rec_ b x y k e hb h =>
      subst e
      have Ob := ok1 (.mk b [x]) (by simp)
      have Vb := Ob.root
      simp only [sizeL_cons, sizeL_nil, size_mk] at hn
      have h1 := ih x (size_lt2 (r := [x]) (by simp) (List.mem_cons_self ..)) (Ob.kid x (by simp)) n (by omega)
      have h2 := ihk y (by simp)
      have hbn : nameM b.s = true := by
        cases Vb.v with
        | func _ _ _ h => exact h
        | _ => omega
      have hw := (lowName_of h).1
      have hwb := (lowName_of hbn).1
      have q : (etx (.mk a [.mk b [x], y])).data.toList ++ r = 40 :: ([108, 101, 116] ++ 32 :: ([114, 101, 99] ++ 32 :: (a.s.data.toList ++ 32 :: (b.s.data.toList ++ 32 :: (61 :: 32 :: ((etx x).data.toList ++ 32 :: 105 :: 110 :: 32 :: ((etx y).data.toList ++ 41 :: r))))))) := by rw [etx_rec k]; simp [toL_app]
      obtain ⟨w1, w2⟩ := kwd [108, 101, 116] (by decide) ([114, 101, 99] ++ 32 :: (a.s.data.toList ++ 32 :: (b.s.data.toList ++ 32 :: (61 :: 32 :: ((etx x).data.toList ++ 32 :: 105 :: 110 :: 32 :: ((etx y).data.toList ++ 41 :: r))))))
      obtain ⟨w3, w4⟩ := kwd [114, 101, 99] (by decide) (a.s.data.toList ++ 32 :: (b.s.data.toList ++ 32 :: (61 :: 32 :: ((etx x).data.toList ++ 32 :: 105 :: 110 :: 32 :: ((etx y).data.toList ++ 41 :: r)))))
      obtain ⟨w5, w6⟩ := kwd a.s.data.toList hw (b.s.data.toList ++ 32 :: (61 :: 32 :: ((etx x).data.toList ++ 32 :: 105 :: 110 :: 32 :: ((etx y).data.toList ++ 41 :: r))))
      obtain ⟨w7, w8⟩ := kwd b.s.data.toList hwb (61 :: 32 :: ((etx x).data.toList ++ 32 :: 105 :: 110 :: 32 :: ((etx y).data.toList ++ 41 :: r)))
      have hc : cls ([108, 101, 116] ++ 32 :: ([114, 101, 99] ++ 32 :: (a.s.data.toList ++ 32 :: (b.s.data.toList ++ 32 :: (61 :: 32 :: ((etx x).data.toList ++ 32 :: 105 :: 110 :: 32 :: ((etx y).data.toList ++ 41 :: r))))))) = 8 := by
        unfold cls; rw [w1, w2, List.tail_cons, w3]; rfl
      rw [q, decE_open, hc, w2, List.tail_cons, w4, List.tail_cons, w5, w6, List.tail_cons, w7, w8, ei_eq k (n0 (by omega)) (bs_of a.s).symm (p0 (by omega)), List.map_cons, ei_eq hb (Vb.n0.elim (fun q => by omega) id) (bs_of b.s).symm (Vb.p0.elim (fun q => by omega) id)]
      simp [h1 _ (stop32 _), h2 _ (stop41 _), mkE]
    | try_ x y k e h =>
      subst e
      have h1 := ihk x (by simp)
      have h2 := ihk y (by simp)
      have hw := (lowName_of h).1
      have q : (etx (.mk a [x, y])).data.toList ++ r = 40 :: ([116, 114, 121] ++ 32 :: ((etx x).data.toList ++ 32 :: 119 :: 105 :: 116 :: 104 :: 32 :: (a.s.data.toList ++ 32 :: (45 :: 62 :: 32 :: ((etx y).data.toList ++ 32 :: 101 :: 110 :: 100 :: 41 :: r))))) := by rw [etx_try k]; simp [toL_app]
      obtain ⟨w1, w2⟩ := kwd [116, 114, 121] (by decide) ((etx x).data.toList ++ 32 :: 119 :: 105 :: 116 :: 104 :: 32 :: (a.s.data.toList ++ 32 :: (45 :: 62 :: 32 :: ((etx y).data.toList ++ 32 :: 101 :: 110 :: 100 :: 41 :: r))))
      have hc : cls ([116, 114, 121] ++ 32 :: ((etx x).data.toList ++ 32 :: 119 :: 105 :: 116 :: 104 :: 32 :: (a.s.data.toList ++ 32 :: (45 :: 62 :: 32 :: ((etx y).data.toList ++ 32 :: 101 :: 110 :: 100 :: 41 :: r))))) = 15 := by unfold cls; rw [w1]; rfl
      obtain ⟨w3, w4⟩ := kwd a.s.data.toList hw (45 :: 62 :: 32 :: ((etx y).data.toList ++ 32 :: 101 :: 110 :: 100 :: 41 :: r))
      rw [q, decE_open, hc, w2, ei_eq k (n0 (by omega)) (bs_of a.s).symm (p0 (by omega))]
      simp [h1 _ (stop32 _), w3, w4, h2 _ (stop32 _), mkE]
    | mat x l k e hpl h1l hs =>
      subst e
      have h1 := ihk x (by simp)
      have hA := dec_arms (dE := decE n) (r := 110 :: 100 :: 41 :: r) a.pats l n (by omega) hpl (by rw [sizeL_cons] at hn; have := sizeL_len l; omega) V.pm (fun t ht r hr => ihk t (List.mem_cons_of_mem _ ht) r hr)
      have q : (etx (.mk a (x :: l))).data.toList ++ r = 40 :: ([109, 97, 116, 99, 104] ++ 32 :: ((etx x).data.toList ++ 32 :: 119 :: 105 :: 116 :: 104 :: 32 :: (arL a.pats l ++ 32 :: 101 :: 110 :: 100 :: 41 :: r))) := by rw [etx_mat k, ← arL_eq _ _ hpl]; simp [toL_app]
      obtain ⟨w1, w2⟩ := kwd [109, 97, 116, 99, 104] (by decide) ((etx x).data.toList ++ 32 :: 119 :: 105 :: 116 :: 104 :: 32 :: (arL a.pats l ++ 32 :: 101 :: 110 :: 100 :: 41 :: r))
      have hc : cls ([109, 97, 116, 99, 104] ++ 32 :: ((etx x).data.toList ++ 32 :: 119 :: 105 :: 116 :: 104 :: 32 :: (arL a.pats l ++ 32 :: 101 :: 110 :: 100 :: 41 :: r))) = 13 := by unfold cls; rw [w1]; rfl
      rw [q, decE_open, hc, w2, ei_eq k (n0 (by omega)) (s_of hs) rfl]
      simp [h1 _ (stop32 _), hA]
theorem etx_inj {x y : ET} (hx : okT x) (hy : okT y) (h : etx x = etx y) : er x = er y := by
  have h1 := dec_etx x hx (x.size + y.size) (by omega) [] stop_nil
  have h2 := dec_etx y hy (x.size + y.size) (by omega) [] stop_nil
  rw [h, h2] at h1
  simp only [Option.some.injEq, Prod.mk.injEq, and_true] at h1
  exact h1.symm
end Go.Proofs.YtahdaknaoogpkaaGreat
