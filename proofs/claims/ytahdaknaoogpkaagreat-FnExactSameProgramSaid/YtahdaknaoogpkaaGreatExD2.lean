import Derived.Test.YtahdaknaoogpkaaGreatExD
/- The text of a right pattern determines it: plain. -/
namespace Go.Proofs.YtahdaknaoogpkaaGreat
set_option linter.unusedVariables false
set_option linter.unusedSimpArgs false
open Arb
def wordP (w : List UInt8) : PT := if wk w = 0 then .mk ⟨3, (dval w : Int), bs []⟩ [] else if wk w = 1 then .mk ⟨2, 0, bs w⟩ [] else .mk ⟨4, 0, bs w⟩ []
def decP : Nat → List UInt8 → Option (PT × List UInt8)
  | 0, _ => none
  | n + 1, s =>
    if s.head? = some 95 then some (.mk ⟨1, 0, bs []⟩ [], s.tail)
    else if s.head? = some 91 then some (.mk ⟨4, 0, bs [91, 93]⟩ [], s.tail.tail)
    else if s.head? = some 45 then some (.mk ⟨3, -(dval (wd s.tail) : Int), bs []⟩ [], af s.tail)
    else if s.head? = some 40 then
      if s.tail.head? = some 41 then some (.mk ⟨6, 0, bs []⟩ [], s.tail.tail)
      else (decP n s.tail).bind fun q =>
        if q.2.head? = some 44 then (decP n q.2.tail.tail).bind fun p => some (.mk ⟨5, 0, bs []⟩ [q.1, p.1], p.2.tail)
        else if q.2.tail.head? = some 58 then (decP n (q.2.drop 4)).bind fun p => some (.mk ⟨4, 0, bs [58, 58]⟩ [.mk ⟨5, 0, bs []⟩ [q.1, p.1]], p.2.tail)
        else (decP n q.2.tail).bind fun p => some (.mk ⟨4, 0, q.1.a.s⟩ [p.1], p.2.tail)
    else some (wordP (wd s), af s)
theorem pi_eq {a : PI} {k n : Int} {s : ByteArray} (h1 : a.kind = k) (h2 : a.n = n) (h3 : a.s = s) : a = ⟨k, n, s⟩ := by cases a; subst h1 h2 h3; rfl
structure Hd (l : List UInt8) (c : UInt8) (t : List UInt8) : Prop where
  e : l = c :: t
  n58 : c ≠ 58
  n41 : c ≠ 41
  n33 : c ≠ 33
theorem ptx_hd : ∀ t : PT, okP t → ∃ c u, Hd (ptx t).data.toList c u := fun t => by
  intro ok
  obtain ⟨a, l⟩ := t
  have v := ok.root
  cases v with
  | wild k e => rw [ptx_wild k]; exact ⟨_, _, rfl, by decide, by decide, by decide⟩
  | var k e _ h =>
    rw [ptx_var k]
    obtain ⟨-, c, t, e, hc⟩ := lowName_of h
    have := low_not hc
    exact ⟨c, t, e, this.2.2.2.2.2.2.2.1, this.2.2.2.2.2.2.2.2.1, this.2.2.2.2.2.2.2.2.2⟩
  | int k e h1 h2 =>
    rw [ptx_num k, toL_bs]
    by_cases h0 : a.n < 0
    · rw [numT_neg (by omega) h0]; exact ⟨_, _, rfl, by decide, by decide, by decide⟩
    · rw [numT_pos h2 h0]
      obtain ⟨c, t, e, hc⟩ := decL_head a.n.toNat
      have := dig_not hc
      exact ⟨c, t, e, this.2.2.2.2.2.2.2.1, this.2.2.2.2.2.2.2.2.1, this.2.2.2.2.2.2.2.2.2⟩
  | con0 k e _ h =>
    subst e
    rw [ptx_con0 k]
    unfold shapeM at h
    rw [ByteArray.toList_eq] at h
    split at h
    · rename_i q
      simp only [Bool.or_eq_true, beq_iff_eq] at q
      rcases q with (q | q) | q <;> (rw [q]; exact ⟨_, _, rfl, by decide, by decide, by decide⟩)
    · split at h
      · simp at h
      · simp only [Bool.and_eq_true] at h
        obtain ⟨-, c, t, e, hc⟩ := conM_parts h.1
        have := upp_not hc
        exact ⟨c, t, e, this.2.2.2.2.2.2.2.1, this.2.2.2.2.2.2.2.2.1, this.2.2.2.2.2.2.2.2.2⟩
  | cons b x y k e _ _ h => subst e; rw [ptx_cons k h]; exact ⟨_, _, by simp only [toL_app, List.cons_append, List.append_assoc]; rfl, by decide, by decide, by decide⟩
  | con1 x k e _ h => subst e; rw [ptx_con1 k (conM_ne58 h)]; exact ⟨_, _, by simp only [toL_app, List.cons_append, List.append_assoc]; rfl, by decide, by decide, by decide⟩
  | pair x y k e => subst e; rw [ptx_pair k]; exact ⟨_, _, by simp only [toL_app, List.cons_append, List.append_assoc]; rfl, by decide, by decide, by decide⟩
  | unit k e => rw [ptx_unit k]; exact ⟨_, _, rfl, by decide, by decide, by decide⟩
theorem decP_word {w : List UInt8} (hw : allWor w = true) {c : UInt8} {t : List UInt8} (e : w = c :: t) (h1 : c ≠ 95) (h2 : c ≠ 91) (h3 : c ≠ 45) (h4 : c ≠ 40) {n : Nat} {r : List UInt8} (hr : stopB r) : decP (n + 1) (w ++ r) = some (wordP w, r) := by
  have hd : (w ++ r).head? = some c := by rw [e]; rfl
  rw [decP, hd, if_neg (by simpa using h1), if_neg (by simpa using h2), if_neg (by simpa using h3), if_neg (by simpa using h4), wd_app hw hr, af_app hw hr]
theorem con_hd {s : ByteArray} (h : shapeM s 0 false = true) (h5 : s.data.toList ≠ [91, 93]) {c : UInt8} {u : List UInt8} (e : s.data.toList = c :: u) : c ≠ 95 ∧ c ≠ 91 ∧ c ≠ 45 ∧ c ≠ 40 := by
  unfold shapeM at h
  rw [ByteArray.toList_eq] at h
  split at h
  · rename_i q
    simp only [Bool.or_eq_true, beq_iff_eq] at q
    rcases q with (q | q) | q
    · rw [q] at e; obtain ⟨rfl, -⟩ := List.cons.inj e; decide
    · rw [q] at e; obtain ⟨rfl, -⟩ := List.cons.inj e; decide
    · exact absurd q h5
  · split at h
    · simp at h
    · simp only [Bool.and_eq_true] at h
      obtain ⟨-, c2, t, e2, hc⟩ := conM_parts h.1
      rw [e] at e2
      obtain ⟨rfl, -⟩ := List.cons.inj e2
      have q := upp_not hc
      exact ⟨q.2.2.2.2.2.1, q.2.2.1, q.2.2.2.1, q.2.2.2.2.1⟩
theorem decP_open {n : Nat} {s : List UInt8} (h : s.head? ≠ some 41) : decP (n + 1) (40 :: s) = (decP n s).bind fun q =>
        if q.2.head? = some 44 then (decP n q.2.tail.tail).bind fun p => some (.mk ⟨5, 0, bs []⟩ [q.1, p.1], p.2.tail)
        else if q.2.tail.head? = some 58 then (decP n (q.2.drop 4)).bind fun p => some (.mk ⟨4, 0, bs [58, 58]⟩ [.mk ⟨5, 0, bs []⟩ [q.1, p.1]], p.2.tail)
        else (decP n q.2.tail).bind fun p => some (.mk ⟨4, 0, q.1.a.s⟩ [p.1], p.2.tail) := by
  rw [decP, List.head?_cons, if_neg (by simp), if_neg (by simp), if_neg (by simp), if_pos rfl, List.tail_cons, if_neg h]
theorem stop32 (r : List UInt8) : stopB (32 :: r) := stop_cons (by decide)
theorem stop41 (r : List UInt8) : stopB (41 :: r) := stop_cons (by decide)
theorem stop44 (r : List UInt8) : stopB (44 :: r) := stop_cons (by decide)
theorem stop59 (r : List UInt8) : stopB (59 :: r) := stop_cons (by decide)
theorem dec_ptx : ∀ t : PT, okP t → ∀ n, t.size ≤ n → ∀ r, stopB r → decP n ((ptx t).data.toList ++ r) = some (t, r) := fun t => by
  induction t using Arb.indS with
  | h t ih =>
    intro ok n hn r hr
    obtain ⟨a, l⟩ := t
    have ok1 := ok.kid
    have v := ok.root
    obtain ⟨n, rfl⟩ : ∃ m, n = m + 1 := ⟨n - 1, by rw [size_mk] at hn; omega⟩
    rw [size_mk] at hn
    cases v with
    | wild k e h h2 =>
      subst e
      rw [ptx_wild k, pi_eq k h (s_of h2)]; rfl
    | var k e h0 h =>
      subst e
      rw [ptx_var k]
      obtain ⟨hw, c, t, e, hc⟩ := lowName_of h
      have q := low_not hc
      rw [decP_word hw e q.2.2.2.2.2.1 q.2.2.1 q.2.2.2.1 q.2.2.2.2.1 hr]
      unfold wordP
      rw [wk_name h, if_neg (by decide), if_pos rfl, bs_of, ← pi_eq k h0 rfl]
    | int k e h1 h2 h3 =>
      subst e
      rw [ptx_num k, toL_bs]
      by_cases h0 : a.n < 0
      · rw [numT_neg (by omega) h0, List.cons_append, decP, List.head?_cons, if_neg (by simp), if_neg (by simp), if_pos rfl, List.tail_cons, wd_app (decL_word _) hr, af_app (decL_word _) hr, dval_dec, ← pi_eq k (by omega : a.n = -((-a.n).toNat : Int)) (s_of h3)]
      · rw [numT_pos h2 h0]
        obtain ⟨c, t, e, hc⟩ := decL_head a.n.toNat
        have q := dig_not hc
        rw [decP_word (decL_word _) e q.2.2.2.2.2.1 q.2.2.1 q.2.2.2.1 q.2.2.2.2.1 hr]
        unfold wordP
        rw [wk_num, if_pos rfl, dval_dec, ← pi_eq k (by omega : a.n = (a.n.toNat : Int)) (s_of h3)]
    | con0 k e h0 h =>
      subst e
      rw [ptx_con0 k]
      by_cases h5 : a.s.data.toList = [91, 93]
      · have h6 : a = ⟨4, 0, bs [91, 93]⟩ := pi_eq k h0 (by rw [← h5, bs_of])
        rw [h5, h6]
        rfl
      · obtain ⟨hk, hw⟩ := wk_con h h5
        obtain ⟨c, u, hh⟩ := ptx_hd _ ok
        rw [ptx_con0 k] at hh
        obtain ⟨q1, q2, q3, q4⟩ := con_hd h h5 hh.e
        rw [decP_word hw hh.e q1 q2 q3 q4 hr]
        unfold wordP
        rw [hk, if_neg (by decide), if_neg (by decide), bs_of, ← pi_eq k h0 rfl]
    | cons b x y k e h0 hb h =>
      subst e
      have ob := (ok1 (.mk b [x, y]) (by simp)).root
      have ox := (ok1 (.mk b [x, y]) (by simp)).kid x (by simp)
      have oy := (ok1 (.mk b [x, y]) (by simp)).kid y (by simp)
      simp only [size_mk, sizeL_cons, sizeL_nil] at hn
      have h1 := ih x (size_lt2 (r := [x, y]) (by simp) (List.mem_singleton.2 rfl)) ox n (by omega) (32 :: 58 :: 58 :: 32 :: ((ptx y).data.toList ++ 41 :: r)) (stop32 _)
      have h2 := ih y (size_lt2 (r := [x, y]) (by simp) (List.mem_singleton.2 rfl)) oy n (by omega) (41 :: r) (stop41 _)
      obtain ⟨c, u, hh⟩ := ptx_hd x ox
      have hT : (ptx (.mk a [.mk b [x, y]])).data.toList ++ r = 40 :: ((ptx x).data.toList ++ 32 :: 58 :: 58 :: 32 :: ((ptx y).data.toList ++ 41 :: r)) := by rw [ptx_cons k h]; simp [toL_app]
      have hb2 : b = ⟨5, 0, bs []⟩ := by
        cases ob with
        | pair _ _ k2 e2 n2 s2 => exact pi_eq k2 n2 (s_of s2)
        | _ => omega
      rw [hT, decP_open (by rw [hh.e]; simpa using hh.n41), hb2, pi_eq k h0 (s_of h)]
      simp [h1, h2]
    | con1 x k e h0 h =>
      subst e
      have ox := ok1 x (by simp)
      simp only [size_mk, sizeL_cons, sizeL_nil] at hn
      have h2 := ih x (size_lt (by simp)) ox n (by omega) (41 :: r) (stop41 _)
      obtain ⟨c, u, hh⟩ := ptx_hd x ox
      obtain ⟨hw, c2, u2, e2, hc2⟩ := conM_parts h
      have hu := upp_not hc2
      have hT : (ptx (.mk a [x])).data.toList ++ r = 40 :: (a.s.data.toList ++ 32 :: ((ptx x).data.toList ++ 41 :: r)) := by rw [ptx_con1 k (conM_ne58 h)]; simp [toL_app]
      obtain ⟨n, rfl⟩ : ∃ m, n = m + 1 := ⟨n - 1, by have := size_pos x; omega⟩
      obtain ⟨h3, h5⟩ := wk_conM h
      obtain ⟨hk, -⟩ := wk_con h3 h5
      rw [hT, decP_open (by rw [e2]; simpa using hu.2.2.2.2.2.2.2.2.1), decP_word hw e2 hu.2.2.2.2.2.1 hu.2.2.1 hu.2.2.2.1 hu.2.2.2.2.1 (stop32 _), Option.bind_some, if_neg (by simp), if_neg (by rw [hh.e]; simpa using hh.n58), List.tail_cons, h2, Option.bind_some]
      unfold wordP
      rw [hk, if_neg (by decide), if_neg (by decide), a_mk, bs_of, ← pi_eq k h0 rfl]
      rfl
    | pair x y k e h0 h =>
      subst e
      have ox := ok1 x (by simp)
      have oy := ok1 y (by simp)
      simp only [size_mk, sizeL_cons, sizeL_nil] at hn
      have h1 := ih x (size_lt (by simp)) ox n (by omega) (44 :: 32 :: ((ptx y).data.toList ++ 41 :: r)) (stop44 _)
      have h2 := ih y (size_lt (by simp)) oy n (by omega) (41 :: r) (stop41 _)
      obtain ⟨c, u, hh⟩ := ptx_hd x ox
      have hT : (ptx (.mk a [x, y])).data.toList ++ r = 40 :: ((ptx x).data.toList ++ 44 :: 32 :: ((ptx y).data.toList ++ 41 :: r)) := by rw [ptx_pair k]; simp [toL_app]
      rw [hT, decP_open (by rw [hh.e]; simpa using hh.n41), pi_eq k h0 (s_of h)]
      simp [h1, h2]
    | unit k e h0 h =>
      subst e
      rw [ptx_unit k, pi_eq k h0 (s_of h)]
      rfl
theorem ptx_inj {x y : PT} (hx : okP x) (hy : okP y) {r r' : List UInt8} (hr : stopB r) (hr' : stopB r') (h : (ptx x).data.toList ++ r = (ptx y).data.toList ++ r') : x = y ∧ r = r' := by
  have h1 := dec_ptx x hx (x.size + y.size) (by omega) r hr
  have h2 := dec_ptx y hy (x.size + y.size) (by omega) r' hr'
  rw [h, h2] at h1
  simp only [Option.some.injEq, Prod.mk.injEq] at h1
  exact ⟨h1.1.symm, h1.2.symm⟩
end Go.Proofs.YtahdaknaoogpkaaGreat
