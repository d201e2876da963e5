import Derived.Test.YtgcdbmcoendcdaaGreatHFoldT
import Derived.Test.YtgcdbmcoendcdaaGreatHFlat
/- Trees of the reference laid down, over the second engine. -/
set_option maxRecDepth 100000
set_option maxHeartbeats 4000000
namespace Go.Proofs.YtgcdbmcoendcdaaGreat
set_option linter.unusedVariables false
set_option linter.unusedSimpArgs false
open Go.RowKit Arb
abbrev stN : NT → ET := mapA MNode.inf
def layRow (x : MNode) : List D := [.s (.int .i64 x.kind), .s (.int .i64 x.at_), .s (.int .i64 x.n), .s (.string x.s), .osl 3 1 (x.kids.map iE), .sl 1 (x.pats.map MPat.enc)]
theorem layRow_frz (x : MNode) : frzL (layRow x) = x.enc := by
  have hz : ∀ l : List Int, frzLL (l.map iE) = l.map iE := fun l => frz_rows (fun _ => rfl) l
  unfold layRow
  simp only [frzL, frz, hz, MNode.enc_eq]
def zeroN : List D := [.s (.int .i64 0), .s (.int .i64 0), .s (.int .i64 0), .s (.string ⟨#[]⟩), .nil, .nil]
def layD (rows : List (List D)) (l : List NT) : List (List D) := rows ++ [.s (.int .i64 0), .s (.int .i64 0), .s (.int .i64 0), .s (.string ⟨#[]⟩), .nil, .nil] :: (layL EI.node (rows.length + 1) (l.map stN)).map layRow
theorem sizeL_st (l : List NT) : sizeL (l.map stN) = sizeL l := by
  induction l with
  | nil => rfl
  | cons t l ih => rw [List.map_cons, sizeL_cons, sizeL_cons, ih, mapA_size]
theorem layD_len (rows : List (List D)) (l : List NT) : (layD rows l).length = rows.length + 1 + sizeL l := by
  unfold layD; rw [List.length_append, List.length_cons, List.length_map, layL_len, sizeL_st]; omega
theorem layD_nil (rows : List (List D)) : layD rows [] = rows ++ [[.s (.int .i64 0), .s (.int .i64 0), .s (.int .i64 0), .s (.string ⟨#[]⟩), .nil, .nil]] := rfl
theorem layD_succ (rows : List (List D)) (l : List NT) (k : Nat) (h : k < l.length) : layD rows (l.take (k + 1)) = layD rows (l.take k) ++ (Arb.lay EI.node (layD rows (l.take k)).length (stN l[k])).map layRow := by
  rw [layD_len]
  unfold layD
  rw [List.take_succ_eq_append_getElem h, List.map_append, layL_app, List.map_cons, List.map_nil, layL_cons, layL_nil, List.append_nil, List.map_append, List.append_assoc, List.cons_append, sizeL_st]
theorem layD_get (rows : List (List D)) (l : List NT) : (layD rows l).getD rows.length [] = [.s (.int .i64 0), .s (.int .i64 0), .s (.int .i64 0), .s (.string ⟨#[]⟩), .nil, .nil] := by
  unfold layD
  rw [List.getD_eq_getElem?_getD, List.getElem?_append_right (Nat.le_refl _), Nat.sub_self]; rfl
theorem layD_set (rows : List (List D)) (a : MNode) (l : List NT) : (layD rows l).set rows.length [.s (.int .i64 a.kind), .s (.int .i64 a.at_), .s (.int .i64 a.n), .s (.string a.s), .osl 3 1 ((idxs (rows.length + 1) (l.map stN)).map iE), .sl 1 (a.pats.map MPat.enc)] = rows ++ (Arb.lay EI.node rows.length (stN (.mk a l))).map layRow := by
  unfold layD
  rw [List.set_append_right _ _ (Nat.le_refl _), Nat.sub_self, List.set_cons_zero, show stN (.mk a l) = .mk a.inf (l.map stN) from mapA_mk _ _ _, lay_mk, List.map_cons]; rfl
theorem sizeL_takeN (l : List NT) (k : Nat) : sizeL (l.take k) ≤ sizeL l := by
  have e := congrArg sizeL (List.take_append_drop k l)
  rw [sizeL_app] at e
  omega
theorem sizeL_splitN {l : List NT} {k : Nat} (h : k < l.length) : sizeL (l.take k) + l[k].size ≤ sizeL l := by
  have e := congrArg sizeL (List.take_append_drop k l)
  rw [sizeL_app, List.drop_eq_getElem_cons h, sizeL_cons] at e
  omega
theorem idxs_succN (b : Nat) (l : List NT) (k : Nat) (h : k < l.length) : idxs b ((l.take (k + 1)).map stN) = idxs b ((l.take k).map stN) ++ [((b + sizeL (l.take k) : Nat) : Int)] := by
  rw [List.take_succ_eq_append_getElem h, List.map_append, idxs_app, sizeL_st]; rfl
theorem c_l03Lay : ∀ t : NT, ∀ rows : List (List D), rows.length + t.size ≤ 1000000 → FCon Tryz.prog 24 [.osl 55 6 rows, .ag (subE t)] (fun r o => r = .osl 55 6 (rows ++ (Arb.lay EI.node rows.length (stN t)).map layRow) ∧ o = [.un, .un]) := fun t => by
  induction t using Arb.ind with
  | h a l ih =>
    intro rows hs
    rw [size_mk] at hs
    have hll := sizeL_len l
    rw [subE_mk]
    refine FCon.intro PM _ Tryz.func24 (by kernel_rfl) rfl _ Tryz.ntmps24 rfl [] (by decide +kernel) (by simp) (by simp) rfl (by first | rfl | simp only [go_sem]) ?_
    (have hWf := f0; repeat' (first | refine zS ?_ | exact zE | with_reducible apply And.intro | with_reducible exact zB0 | with_reducible refine zB fun hb => ?_ | exact zC | refine zT ?_ | fail))
    refine ACL_ac (AC_nil 6 4 777 (row := [.s (.int .i64 a.kind), .s (.int .i64 a.at_), .s (.int .i64 a.n), .s (.string a.s), .nil, .sl 1 (a.pats.map MPat.enc)]) 3 1 (by simp only [go_sem, simprocAttr]) rfl (by decide) rfl (AC_go ?_))
    simp only [go_sem, simprocAttr]
    refine AC_loop (fun n σ => ∃ (k nm : Nat), (nm = 13 ∨ nm = 1036) ∧ k ≤ l.length ∧ n = l.length - k ∧ σ.t 0 = .bs nm 6 (layD rows (l.take k)).length ∧ σ.t 3 = .bx 3 0 ∧ σ.t 5 = .s (.int .i64 rows.length) ∧ σ.t 6 = .bx 6 0 ∧ σ.t 19 = .s (.int .i64 l.length) ∧ σ.t 20 = .s (.int .i64 k) ∧
      σ.b nm = some (.arr 55 6 (layD rows (l.take k))) ∧ σ.b 3 = some (.box [.s (.int .i64 a.kind), .s (.int .i64 a.at_), .s (.int .i64 a.n), .s (.string a.s), .sl 1 (a.kids.map iE), .sl 1 (a.pats.map MPat.enc), .sl 7 (l.map subE)]) ∧ σ.b 6 = some (.box [.s (.int .i64 a.kind), .s (.int .i64 a.at_), .s (.int .i64 a.n), .s (.string a.s), .bs 777 1 (idxs (rows.length + 1) ((l.take k).map stN)).length, .sl 1 (a.pats.map MPat.enc)]) ∧ σ.b 777 = some (.arr 3 1 ((idxs (rows.length + 1) ((l.take k).map stN)).map iE)) ∧ σ.b 900000 = none) l.length ⟨0, 13, .inl rfl, by omega, by omega, ?_⟩ ?_
    · simp only [go_sem, simprocAttr, Int.natCast_zero, List.take_zero, layD_nil, List.length_append, idxs, List.map_nil]
    · rintro n σ ⟨k, nm, hnm, hk, rfl, h0, h3, h5, h6, h19, h20, b0, b3, b6, b7, b9⟩ K' hK
      have hcl := layD_len rows (l.take k)
      have hil := idxs_len (rows.length + 1) ((l.take k).map stN)
      rw [List.length_map] at hil
      have hts := sizeL_takeN l k
      have hle : (l.take k).length ≤ k := by rw [List.length_take]; omega
      by_cases hlt : k < l.length
      · have hx := getD_map subE l k hlt
        obtain ⟨b, q, hbr⟩ : ∃ b q, l[k] = .mk b q := ⟨_, _, Arb.eta _⟩
        have he : subE l[k] = [.s (.int .i64 b.kind), .s (.int .i64 b.at_), .s (.int .i64 b.n), .s (.string b.s), .sl 1 (b.kids.map iE), .sl 1 (b.pats.map MPat.enc), .sl 7 (q.map subE)] := by rw [hbr, subE_mk]
        have hz := sizeL_splitN hlt
        have hi := ih l[k] (List.getElem_mem hlt) (layD rows (l.take k)) (by omega)
        have hcs := layD_succ rows l k hlt
        have his := idxs_succN (rows.length + 1) l k hlt
        rw [← hcs, he] at hi
        rcases hnm with rfl | rfl
        · (have hWf := WFx.mk (ai @h0 <| ai @h3 <| ai @h5 <| ai @h6 <| ai @h19 <| ai @h20 <| ai @b0 <| ai @b3 <| ai @b6 <| ai @b7 <| ai @b9 <| ai @hx <| @he); repeat' (first | refine zS ?_ | exact zE | with_reducible apply And.intro | refine zH hi ?_ | with_reducible exact zB0 | with_reducible refine zB fun hb => ?_ | exact zC | refine zT ?_ | fail))
          refine hK (l.length - (k + 1)) _ (by omega) ⟨k + 1, 1036, .inr rfl, by omega, rfl, ?_⟩
          simp only [go_sem, simprocAttr, h0, h3, h5, h6, h19, h20, b0, b3, b6, b7, b9, Int.natCast_succ, his, List.map_append, List.length_append, hcl]
          all_goals rfl
        · (have hWf := WFx.mk (ai @h0 <| ai @h3 <| ai @h5 <| ai @h6 <| ai @h19 <| ai @h20 <| ai @b0 <| ai @b3 <| ai @b6 <| ai @b7 <| ai @b9 <| ai @hx <| @he); repeat' (first | refine zS ?_ | exact zE | with_reducible apply And.intro | refine zH hi ?_ | with_reducible exact zB0 | with_reducible refine zB fun hb => ?_ | exact zC | refine zT ?_ | fail))
          refine hK (l.length - (k + 1)) _ (by omega) ⟨k + 1, 1036, .inr rfl, by omega, rfl, ?_⟩
          simp only [go_sem, simprocAttr, h0, h3, h5, h6, h19, h20, b0, b3, b6, b7, b9, Int.natCast_succ, his, List.map_append, List.length_append, hcl]
          all_goals rfl
      · obtain rfl : k = l.length := by omega
        rw [List.take_length] at h0 b0 b6 b7 hcl hil
        have hg := layD_get rows l
        have hst := layD_set rows a l
        have hln : (layD rows l).length = rows.length + (Arb.lay EI.node rows.length (stN (.mk a l))).length := by rw [layD_len, Arb.lay_len, mapA_size, size_mk]; omega
        have htk : List.take (layD rows l).length (rows ++ (Arb.lay EI.node rows.length (stN (.mk a l))).map layRow) = rows ++ (Arb.lay EI.node rows.length (stN (.mk a l))).map layRow := List.take_of_length_le (by rw [hln, List.length_append, List.length_map]; exact Nat.le_refl _)
        rcases hnm with rfl | rfl
        · (have hWf := WFx.mk (ai @h0 <| ai @h3 <| ai @h5 <| ai @h6 <| ai @h19 <| ai @h20 <| ai @b0 <| ai @b3 <| ai @b6 <| ai @b7 <| ai @b9 <| ai @hg <| ai @hst <| @htk); repeat' (first | refine zS ?_ | exact zE | with_reducible apply And.intro | with_reducible exact zB0 | with_reducible refine zB fun hb => ?_ | exact zC | refine zT ?_ | fail))
          all_goals exact Nat.le_of_eq hln
        · (have hWf := WFx.mk (ai @h0 <| ai @h3 <| ai @h5 <| ai @h6 <| ai @h19 <| ai @h20 <| ai @b0 <| ai @b3 <| ai @b6 <| ai @b7 <| ai @b9 <| ai @hg <| ai @hst <| @htk); repeat' (first | refine zS ?_ | exact zE | with_reducible apply And.intro | with_reducible exact zB0 | with_reducible refine zB fun hb => ?_ | exact zC | refine zT ?_ | fail))
          all_goals exact Nat.le_of_eq hln
end Go.Proofs.YtgcdbmcoendcdaaGreat
