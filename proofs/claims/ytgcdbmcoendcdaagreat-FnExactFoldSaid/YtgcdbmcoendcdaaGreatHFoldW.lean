import Derived.Test.YtgcdbmcoendcdaaGreatHFoldV
import Derived.Test.YtgcdbmcoendcdaaGreatHFoldC
/- Folding in the reference, over the second engine: trees read off, programs. -/
set_option maxRecDepth 100000
set_option maxHeartbeats 8000000
namespace Go.Proofs.YtgcdbmcoendcdaaGreat
set_option linter.unusedVariables false
set_option linter.unusedSimpArgs false
open Go.RowKit Arb
mutual
def labN : Nat → ET → NT
  | m, .mk a l => .mk (a.node (idxs (m + 1) l)) (labL (m + 1) l)
def labL : Nat → List ET → List NT
  | _, [] => []
  | m, t :: l => labN m t :: labL (m + t.size) l
end
theorem labN_mk (m : Nat) (a : EI) (l : List ET) : labN m (.mk a l) = .mk (a.node (idxs (m + 1) l)) (labL (m + 1) l) := by rw [labN]
theorem labL_nil (m : Nat) : labL m [] = [] := by rw [labL]
theorem labL_cons (m : Nat) (t : ET) (l : List ET) : labL m (t :: l) = labN m t :: labL (m + t.size) l := by rw [labL]
theorem labL_app (m : Nat) (l r : List ET) : labL m (l ++ r) = labL m l ++ labL (m + sizeL l) r := by
  induction l generalizing m with
  | nil => simp [labL_nil, sizeL_nil]
  | cons t l ih => rw [List.cons_append, labL_cons, labL_cons, ih, sizeL_cons, List.cons_append, Nat.add_assoc]
theorem labL_len (m : Nat) (l : List ET) : (labL m l).length = l.length := by
  induction l generalizing m with
  | nil => rw [labL_nil]; rfl
  | cons t l ih => rw [labL_cons, List.length_cons, List.length_cons, ih]
theorem labL_succ (m : Nat) (l : List ET) (k : Nat) (h : k < l.length) : labL m (l.take (k + 1)) = labL m (l.take k) ++ [labN (m + sizeL (l.take k)) l[k]] := by
  rw [List.take_succ_eq_append_getElem h, labL_app, labL_cons, labL_nil]
theorem st_lab : ∀ (t : ET) (m : Nat), stN (labN m t) = t := fun t => by
  induction t using Arb.ind with
  | h a l ih =>
    intro m
    rw [labN_mk, show stN (.mk (a.node (idxs (m + 1) l)) (labL (m + 1) l)) = .mk (a.node (idxs (m + 1) l)).inf ((labL (m + 1) l).map stN) from mapA_mk _ _ _, inf_node]
    congr 1
    have : ∀ (r : List ET) (q : Nat), (∀ x ∈ r, x ∈ l) → (labL q r).map stN = r := fun r => by
      induction r with
      | nil => intro q _; rw [labL_nil]; rfl
      | cons x r ih2 => intro q hr; rw [labL_cons, List.map_cons, ih x (hr x (by simp)), ih2 _ (fun y hy => hr y (by simp [hy]))]
    exact this l _ (fun _ h => h)
theorem c_l09Sub (T : List MType) (nodes : List MNode) (hl : nodes.length ≤ 1000000) : ∀ (t : ET) (m : Nat), At EI.node nodes m t → All (fun a _ => patsB a.pats) t → FCon Tryz.prog 26 [.ag [.sl 3 (T.map MType.enc), .sl 6 (nodes.map MNode.enc)], .s (.int .i64 m)] (fun r _ => r = .ag (subE (labN m t))) := fun t => by
  induction t using Arb.ind with
  | h a l ih =>
    intro m hA hp
    obtain ⟨hm, hr⟩ := List.getElem?_eq_some_iff.1 hA.root
    have hx := getD_map MNode.enc nodes m hm
    have he := node_encF a (idxs (m + 1) l)
    rw [hr] at hx
    have hpp := hp.root
    have hil := idxs_len (m + 1) l
    have hll : l.length ≤ 1000000 := by
      have h1 := hA.bd
      have h2 := sizeL_len l
      rw [size_mk] at h1
      omega
    have hpl := hpp.1
    refine FCon.ice ?_
    refine FCon.intro PM _ Tryz.func26 (by kernel_rfl) rfl _ Tryz.ntmps26 rfl [(19, 6, [], [], (lin [] [0, 1, 2, 3, 4, 5]))] (by decide +kernel) (by simp) (by simp) rfl (by first | rfl | simp only [go_sem]) ?_
    (have hWf := WFx.mk (ai @hx <| @he); repeat' (first | refine zS ?_ | exact zE | with_reducible apply And.intro | with_reducible exact zB0 | with_reducible refine zB fun hb => ?_ | exact zC | refine zT ?_ | fail))
    refine ACL_ac (AC_nil 6 5 777 (row := [.s (.int .i64 a.kind), .s (.int .i64 a.at_), .s (.int .i64 a.n), .s (.string a.s), .sl 1 ((idxs (m + 1) l).map iE), .nil, .nil]) 89 1 (by simp only [go_sem, simprocAttr]) rfl (by decide) rfl (AC_nil 6 6 778 (row := [.s (.int .i64 a.kind), .s (.int .i64 a.at_), .s (.int .i64 a.n), .s (.string a.s), .sl 1 ((idxs (m + 1) l).map iE), .bs 777 1 0, .nil]) 58 7 (by simp only [go_sem, simprocAttr]) rfl (by decide) rfl (AC_go ?_)))
    simp only [go_sem, simprocAttr]
    refine AC_loop (fun n σ => ∃ k : Nat, k ≤ a.pats.length ∧ n = a.pats.length - k ∧ σ.t 2 = .bx 2 0 ∧ σ.b 2 = some (.box [.sl 3 (T.map MType.enc), .sl 6 (nodes.map MNode.enc)]) ∧ σ.t 4 = .bx 4 0 ∧ σ.b 4 = some (.box [.s (.int .i64 0), .s (.int .i64 0), .s (.int .i64 0), .s (.string ⟨#[]⟩), .nil, .nil, .nil]) ∧ σ.t 5 = .bx 5 0 ∧ σ.b 5 = some (.box [.s (.int .i64 a.kind), .s (.int .i64 a.at_), .s (.int .i64 a.n), .s (.string a.s), .sl 1 ((idxs (m + 1) l).map iE), .sl 1 (a.pats.map MPat.enc)]) ∧
      σ.t 6 = .bx 6 0 ∧ σ.b 6 = some (.box [.s (.int .i64 a.kind), .s (.int .i64 a.at_), .s (.int .i64 a.n), .s (.string a.s), .sl 1 ((idxs (m + 1) l).map iE), .bs 777 1 k, .bs 778 7 0]) ∧ σ.b 777 = some (.arr 89 1 ((a.pats.take k).map MPat.own)) ∧ σ.b 778 = some (.arr 58 7 []) ∧ σ.t 24 = .sl 1 (a.pats.map MPat.enc) ∧ σ.t 25 = .s (.int .i64 a.pats.length) ∧ σ.t 26 = .s (.int .i64 k)) a.pats.length ⟨0, by omega, by omega, ?_⟩ ?_
    · simp only [go_sem, simprocAttr, Int.natCast_zero, List.take_zero]
    · rintro n σ ⟨k, hk, rfl, h2, b2, h4, b4, h5, b5, h6, b6, b7, b8, h24, h25, h26⟩ K' hK
      by_cases hlt : k < a.pats.length
      · have hx3 := getD_map MPat.enc a.pats k hlt
        have he3 := MPat.enc_eq a.pats[k]
        have hq := hpp.2 _ (List.getElem_mem hlt)
        have htl : (a.pats.take k).length = k := by rw [List.length_take]; omega
        have hts := List.take_succ_eq_append_getElem hlt
        have ho := MPat.own_eq a.pats[k]
        generalize a.pats[k].nodes = xs at he3 hq ho
        have hxl := hq.1
        (have hWf := WFx.mk (ai @h2 <| ai @b2 <| ai @h4 <| ai @b4 <| ai @h5 <| ai @b5 <| ai @h6 <| ai @b6 <| ai @b7 <| ai @b8 <| ai @h24 <| ai @h25 <| ai @h26 <| ai @hx3 <| @he3); repeat' (first | refine zS ?_ | exact zE | with_reducible apply And.intro | with_reducible exact zB0 | with_reducible refine zB fun hb => ?_ | exact zC | refine zT ?_ | fail))
        refine AC_loop (fun n σ => ∃ j : Nat, j ≤ xs.length ∧ n = xs.length - j ∧ σ.t 2 = .bx 2 0 ∧ σ.b 2 = some (.box [.sl 3 (T.map MType.enc), .sl 6 (nodes.map MNode.enc)]) ∧ σ.t 4 = .bx 4 0 ∧ σ.b 4 = some (.box [.s (.int .i64 0), .s (.int .i64 0), .s (.int .i64 0), .s (.string ⟨#[]⟩), .nil, .nil, .nil]) ∧ σ.t 5 = .bx 5 0 ∧ σ.b 5 = some (.box [.s (.int .i64 a.kind), .s (.int .i64 a.at_), .s (.int .i64 a.n), .s (.string a.s), .sl 1 ((idxs (m + 1) l).map iE), .sl 1 (a.pats.map MPat.enc)]) ∧
          σ.t 6 = .bx 6 0 ∧ σ.b 6 = some (.box [.s (.int .i64 a.kind), .s (.int .i64 a.at_), .s (.int .i64 a.n), .s (.string a.s), .sl 1 ((idxs (m + 1) l).map iE), .bs 777 1 k, .bs 778 7 0]) ∧ σ.b 777 = some (.arr 89 1 ((a.pats.take k).map MPat.own)) ∧ σ.b 778 = some (.arr 58 7 []) ∧ σ.t 24 = .sl 1 (a.pats.map MPat.enc) ∧ σ.t 25 = .s (.int .i64 a.pats.length) ∧ σ.t 26 = .s (.int .i64 k) ∧
          σ.t 9 = .bs 30 4 j ∧ σ.b 30 = some (.arr 126 4 ((xs.take j).map DPNode.own)) ∧ σ.t 32 = .sl 4 (xs.map DPNode.enc) ∧ σ.t 33 = .s (.int .i64 xs.length) ∧ σ.t 34 = .s (.int .i64 j)) xs.length ⟨0, by omega, by omega, ?_⟩ ?_
        · simp only [go_sem, simprocAttr, h2, b2, h4, b4, h5, b5, h6, b6, b7, b8, h24, h25, h26, Int.natCast_zero, List.take_zero]
        · rintro n σ ⟨j, hj, rfl, h2, b2, h4, b4, h5, b5, h6, b6, b7, b8, h24, h25, h26, h9, b30, h32, h33, h34⟩ K'' hK'
          by_cases hlj : j < xs.length
          · have hx4 := getD_map DPNode.enc xs j hlj
            have he4 := DPNode.enc_eq xs[j]
            have ho4 := DPNode.own_eq xs[j]
            have htl4 : (xs.take j).length = j := by rw [List.length_take]; omega
            have hts4 := List.take_succ_eq_append_getElem hlj
            have hkk := hq.2 _ (List.getElem_mem hlj)
            (have hWf := WFx.mk (ai @h2 <| ai @b2 <| ai @h4 <| ai @b4 <| ai @h5 <| ai @b5 <| ai @h6 <| ai @b6 <| ai @b7 <| ai @b8 <| ai @h24 <| ai @h25 <| ai @h26 <| ai @h9 <| ai @b30 <| ai @h32 <| ai @h33 <| ai @h34 <| ai @hx4 <| ai @he4 <| @htl4); repeat' (first | refine zS ?_ | exact zE | with_reducible apply And.intro | with_reducible exact zB0 | with_reducible refine zB fun hb => ?_ | exact zC | refine zT ?_ | fail))
            refine hK' (xs.length - (j + 1)) _ (by omega) ⟨j + 1, by omega, rfl, ?_⟩
            simp only [go_sem, simprocAttr, h2, b2, h4, b4, h5, b5, h6, b6, b7, b8, h24, h25, h26, h9, b30, h32, h33, h34, Int.natCast_succ, hts4, List.map_append, ho4]
          · obtain rfl : j = xs.length := by omega
            rw [List.take_length] at b30
            (have hWf := WFx.mk (ai @h2 <| ai @b2 <| ai @h4 <| ai @b4 <| ai @h5 <| ai @b5 <| ai @h6 <| ai @b6 <| ai @b7 <| ai @b8 <| ai @h24 <| ai @h25 <| ai @h26 <| ai @h9 <| ai @b30 <| ai @h32 <| ai @h33 <| ai @h34 <| @htl); repeat' (first | refine zS ?_ | exact zE | with_reducible apply And.intro | with_reducible exact zB0 | with_reducible refine zB fun hb => ?_ | exact zC | refine zT ?_ | fail))
            refine hK (a.pats.length - (k + 1)) _ (by omega) ⟨k + 1, by omega, rfl, ?_⟩
            simp only [go_sem, simprocAttr, h2, b2, h4, b4, h5, b5, h6, b6, b7, b8, h24, h25, h26, h9, b30, h32, h33, h34, Int.natCast_succ, hts, List.map_append, ho]
      · obtain rfl : k = a.pats.length := by omega
        rw [List.take_length] at b7
        (have hWf := WFx.mk (ai @h2 <| ai @b2 <| ai @h4 <| ai @b4 <| ai @h5 <| ai @b5 <| ai @h6 <| ai @b6 <| ai @b7 <| ai @b8 <| ai @h24 <| ai @h25 <| ai @h26 <| @hil); repeat' (first | refine zS ?_ | exact zE | with_reducible apply And.intro | with_reducible exact zB0 | with_reducible refine zB fun hb => ?_ | exact zC | refine zT ?_ | fail))
        refine AC_loop (fun n σ => ∃ k : Nat, k ≤ l.length ∧ n = l.length - k ∧ σ.t 2 = .bx 2 0 ∧ σ.b 2 = some (.box [.sl 3 (T.map MType.enc), .sl 6 (nodes.map MNode.enc)]) ∧ σ.t 4 = .bx 4 0 ∧ σ.b 4 = some (.box [.s (.int .i64 0), .s (.int .i64 0), .s (.int .i64 0), .s (.string ⟨#[]⟩), .nil, .nil, .nil]) ∧
          σ.t 6 = .bx 6 0 ∧ σ.b 6 = some (.box [.s (.int .i64 a.kind), .s (.int .i64 a.at_), .s (.int .i64 a.n), .s (.string a.s), .sl 1 ((idxs (m + 1) l).map iE), .bs 777 1 a.pats.length, .bs 778 7 k]) ∧ σ.b 777 = some (.arr 89 1 (a.pats.map MPat.own)) ∧ σ.b 778 = some (.arr 58 7 ((labL (m + 1) (l.take k)).map subE)) ∧ σ.t 59 = .sl 1 ((idxs (m + 1) l).map iE) ∧ σ.t 60 = .s (.int .i64 l.length) ∧ σ.t 61 = .s (.int .i64 k)) l.length ⟨0, by omega, by omega, ?_⟩ ?_
        · simp only [go_sem, simprocAttr, h2, b2, h4, b4, h6, b6, b7, b8, Int.natCast_zero, List.take_zero, labL_nil, List.map_nil]
        · rintro n σ ⟨k, hk, rfl, h2, b2, h4, b4, h6, b6, b7, b8, h59, h60, h61⟩ K'' hK'
          have hlen : (labL (m + 1) (l.take k)).length = k := by rw [labL_len, List.length_take]; omega
          by_cases hlt : k < l.length
          · have hlt2 : k < (idxs (m + 1) l).length := by rw [hil]; exact hlt
            have hx2 := getD_map iE (idxs (m + 1) l) k hlt2
            have he2 : iE (idxs (m + 1) l)[k] = [.s (.int .i64 ((m + 1 + sizeL (l.take k) : Nat) : Int))] := by rw [idxs_at (m + 1) l k hlt]; rfl
            have hg := ih l[k] (List.getElem_mem hlt) _ (hA.kids.at k hlt) (hp.kid _ (List.getElem_mem hlt))
            obtain ⟨b, q, hbr⟩ : ∃ b q, labN (m + 1 + sizeL (l.take k)) l[k] = .mk b q := ⟨_, _, Arb.eta _⟩
            have hse : subE (labN (m + 1 + sizeL (l.take k)) l[k]) = [.s (.int .i64 b.kind), .s (.int .i64 b.at_), .s (.int .i64 b.n), .s (.string b.s), .sl 1 (b.kids.map iE), .sl 1 (b.pats.map MPat.enc), .sl 7 (q.map subE)] := by rw [hbr, subE_mk]
            rw [hse] at hg
            have hls := labL_succ (m + 1) l k hlt
            (have hWf := WFx.mk (ai @h2 <| ai @b2 <| ai @h4 <| ai @b4 <| ai @h6 <| ai @b6 <| ai @b7 <| ai @b8 <| ai @h59 <| ai @h60 <| ai @h61 <| ai @hx2 <| ai @he2 <| @hlen); repeat' (first | refine zS ?_ | exact zE | with_reducible apply And.intro | refine zK (hg) ?_ | with_reducible exact zB0 | with_reducible refine zB fun hb => ?_ | exact zC | refine zT ?_ | fail))
            refine hK' (l.length - (k + 1)) _ (by omega) ⟨k + 1, by omega, rfl, ?_⟩
            simp only [go_sem, simprocAttr, h2, b2, h4, b4, h6, b6, b7, b8, h59, h60, h61, Int.natCast_succ, hls, List.map_append, List.map_cons, List.map_nil, hse]
          · obtain rfl : k = l.length := by omega
            rw [List.take_length] at b8 hlen
            rw [labN_mk, subE_mk]
            (have hWf := WFx.mk (ai @h2 <| ai @b2 <| ai @h4 <| ai @b4 <| ai @h6 <| ai @b6 <| ai @b7 <| ai @b8 <| ai @h59 <| ai @h60 <| ai @h61 <| @hlen); repeat' (first | refine zS ?_ | exact zE | with_reducible apply And.intro | with_reducible exact zB0 | with_reducible refine zB fun hb => ?_ | exact zC | refine zT ?_ | fail))
            all_goals simp only [frA, frz, frzL, subR_frz, MPat.frzS]
            all_goals rfl
end Go.Proofs.YtgcdbmcoendcdaaGreat
