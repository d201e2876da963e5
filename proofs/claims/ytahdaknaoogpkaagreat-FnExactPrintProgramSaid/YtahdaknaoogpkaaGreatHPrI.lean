import Derived.Test.YtahdaknaoogpkaaGreatHPrT
import Derived.Test.YtahdaknaoogpkaaGreatPoB
/- impl.PrintProgram over the second engine. -/
set_option maxRecDepth 100000
set_option maxHeartbeats 4000000
namespace Go.Proofs.YtahdaknaoogpkaaGreat
set_option linter.unusedVariables false
set_option linter.unusedSimpArgs false
open Go.RowKit Arb
noncomputable def progT (p : MProgram) (t : ET) : ByteArray := outT p.types ++ etx t
theorem c_implPrint_bad (p : MProgram) (ho : p.ok) (hs : p.sm) (hp : progM p = false) : FCon Tryz.prog 15 [.ag p.enc] (fun r _ => r = .s (.string ⟨#[]⟩)) := by
  have hc := c_implProgramOk p ho hs
  rw [hp, MProgram.enc_eq] at hc
  rw [MProgram.enc_eq]
  refine FCon.intro PM _ Tryz.func15 (by kernel_rfl) rfl _ Tryz.ntmps15 rfl [] (by decide +kernel) (by simp) (by simp) rfl (by first | rfl | simp only [go_sem]) ?_
  (have hWf := f0; repeat' (first | refine zS ?_ | exact zE | with_reducible apply And.intro | refine zK (hc) ?_ | with_reducible exact zB0 | with_reducible refine zB fun hb => ?_ | exact zC | refine zT ?_ | fail))
theorem go_of {p : MProgram} (ho : p.ok) (hs : p.sm) {t : ET} (ht : p.nodes = Arb.lay EI.node 0 t) : All goN t := by
  have hA := At.zero (f := EI.node) t
  rw [← ht] at hA
  exact all_of t 0 hA fun j x l hj => by
    have hm := List.mem_of_getElem? hj.root
    have h1 := hs.2.2 _ hm
    have h2 := ho.2 _ hm
    exact ⟨h1.1, fun q hq => ⟨h2.2.2.2.2.2 q hq, h1.2.2.2 q hq⟩⟩
theorem c_implPrint_ok (p : MProgram) (ho : p.ok) (hs : p.sm) (hp : progM p = true) (t : ET) (ht : p.nodes = Arb.lay EI.node 0 t) (ok : okT t) (hz : t.size ≤ 600) (htl : p.types.length ≤ 8) (hty : p.types.all typeM = true) : FCon Tryz.prog 15 [.ag p.enc] (fun r _ => r = .s (.string (progT p t))) := by
  have hc := c_implProgramOk p ho hs
  rw [hp, MProgram.enc_eq] at hc
  have hA := At.zero (f := EI.node) t
  rw [← ht] at hA
  have hg := c_grow p.nodes (by have := congrArg List.length ht; rw [Arb.lay_len] at this; omega) t 0 hA (pats_okC t ok (by omega))
  have hg : FCon Tryz.prog 45 [.sl 6 (p.nodes.map MNode.enc), .s (.int .i64 (0 : Nat))] (fun r _ => r = exE t) := FCon.ice (hg.mono fun r _ e => by subst e; exact frA_exT t)
  have gn := go_of ho hs ht
  have he := c_exText t ok gn (by omega)
  have hes := etx_le ok gn (by omega)
  have hG : ∀ x ∈ p.types, TyG x := fun x hx => typeM_g (List.all_eq_true.1 hty x hx)
  have hO := ho.1
  obtain ⟨a, l⟩ := t
  unfold XT at he
  simp only [exE_mk] at he hg
  unfold progT
  clear hA ht gn hs ho
  rw [MProgram.enc_eq]
  generalize p.types = ts at *
  generalize p.nodes = nodes at *
  refine FCon.intro PM _ Tryz.func15 (by kernel_rfl) rfl _ Tryz.ntmps15 rfl [] (by decide +kernel) (by simp) (by simp) rfl (by first | rfl | simp only [go_sem]) ?_
  (have hWf := f0; repeat' (first | refine zS ?_ | exact zE | with_reducible apply And.intro | refine zK (hc) ?_ | with_reducible exact zB0 | with_reducible refine zB fun hb => ?_ | exact zC | refine zT ?_ | fail))
  refine AC_loop (fun n σ => ∃ k : Nat, k ≤ ts.length ∧ n = ts.length - k ∧ σ.t 1 = .bx 1 0 ∧ σ.b 1 = some (.box [.sl 3 (ts.map MType.enc), .sl 6 (nodes.map MNode.enc)]) ∧ σ.t 3 = .s (.string (outT (ts.take k))) ∧ σ.t 14 = .sl 3 (ts.map MType.enc) ∧ σ.t 15 = .s (.int .i64 ts.length) ∧ σ.t 16 = .s (.int .i64 k)) ts.length ⟨0, by omega, by omega, ?_⟩ ?_
  · simp only [go_sem, simprocAttr, Int.natCast_zero, List.take_zero]
    rfl
  · rintro n σ ⟨k, hk, rfl, h1, b1, h3, h14, h15, h16⟩ K' hK
    have hos := outT_size hG k hk
    by_cases hlt : k < ts.length
    · have hx := getD_map MType.enc ts k hlt
      have hen := MType.enc_eq ts[k]
      have hm := List.getElem_mem hlt
      have G := hG _ hm
      have hO' := (hO _ hm).2.2
      have hgl := G.l
      have hts := outT_succ hlt
      have hh := c_headText ts[k] G
      rw [hen] at hh
      generalize outT (ts.take k) = O at *
      generalize ts[k] = ty at *
      (have hWf := WFx.mk (ai @h1 <| ai @b1 <| ai @h3 <| ai @h14 <| ai @h15 <| ai @h16 <| ai @hx <| @hen); repeat' (first | refine zS ?_ | exact zE | with_reducible apply And.intro | with_reducible exact zB0 | with_reducible refine zB fun hb => ?_ | exact zC | refine zT ?_ | fail))
      refine AC_loop (fun n σ => ∃ j : Nat, j ≤ ty.cons.length ∧ n = ty.cons.length - j ∧ σ.t 1 = .bx 1 0 ∧ σ.b 1 = some (.box [.sl 3 (ts.map MType.enc), .sl 6 (nodes.map MNode.enc)]) ∧ σ.t 3 = .s (.string O) ∧ σ.t 14 = .sl 3 (ts.map MType.enc) ∧ σ.t 15 = .s (.int .i64 ts.length) ∧ σ.t 16 = .s (.int .i64 k) ∧ σ.t 5 = .bx 5 0 ∧ σ.b 5 = some (.box [.s (.string ty.name), .s (.int .i64 ty.params), .sl 3 (ty.cons.map MCon.enc)]) ∧ σ.t 6 = .bs 20 1 j ∧ σ.b 20 = some (.arr 9 1 ((ty.cons.take j).map fun c => stE (conT c))) ∧ σ.t 22 = .sl 3 (ty.cons.map MCon.enc) ∧ σ.t 23 = .s (.int .i64 ty.cons.length) ∧ σ.t 24 = .s (.int .i64 j)) ty.cons.length ⟨0, by omega, by omega, ?_⟩ ?_
      · simp only [go_sem, simprocAttr, h1, b1, h3, h14, h15, h16, Int.natCast_zero, List.take_zero]
      · clear h1 b1 h3 h14 h15 h16
        rintro n σ ⟨j, hj, rfl, h1, b1, h3, h14, h15, h16, h5, b5, h6, b20, h22, h23, h24⟩ K2 hK2
        by_cases hlt2 : j < ty.cons.length
        · have hx2 := getD_map MCon.enc ty.cons j hlt2
          have hm2 := List.getElem_mem hlt2
          have C := G.c _ hm2
          have hoc := (hO' _ hm2).2.2
          have hn12 := conOk_12 C
          have htl2 : (ty.cons.take j).length = j := by rw [List.length_take]; omega
          have hts2 := List.take_succ_eq_append_getElem hlt2
          generalize ty.cons[j] = c at *
          have hen2 := MCon.enc_eq c
          cases hb : c.has with
          | true =>
            have hty := conOk_ty C hb
            have hz2 := tyT_size hty
            have hpt := c_implPrintTyE c.arg hoc hty
            have hcT : conT c = c.name ++ ⟨#[32, 111, 102, 32]⟩ ++ bs (textT c.arg c.arg.length 0) := by unfold conT; rw [if_pos hb]
            (have hWf := WFx.mk (ai @h1 <| ai @b1 <| ai @h3 <| ai @h14 <| ai @h15 <| ai @h16 <| ai @h5 <| ai @b5 <| ai @h6 <| ai @b20 <| ai @h22 <| ai @h23 <| ai @h24 <| ai @hx2 <| ai @hen2 <| ai @hb <| ai @htl2 <| ai @ByteArray.size_append <| @z4); repeat' (first | refine zS ?_ | exact zE | with_reducible apply And.intro | refine zK (hpt) ?_ | with_reducible exact zB0 | with_reducible refine zB fun hb => ?_ | exact zC | refine zT ?_ | fail))
            refine hK2 (ty.cons.length - (j + 1)) _ (by omega) ⟨j + 1, by omega, rfl, ?_⟩
            simp only [go_sem, simprocAttr, h1, b1, h3, h14, h15, h16, h5, b5, h6, b20, h22, h23, h24, Int.natCast_succ, hts2, List.map_append, hcT, stE_eq]
          | false =>
            have hcT : conT c = c.name := by unfold conT; rw [if_neg (by rw [hb]; simp)]
            (have hWf := WFx.mk (ai @h1 <| ai @b1 <| ai @h3 <| ai @h14 <| ai @h15 <| ai @h16 <| ai @h5 <| ai @b5 <| ai @h6 <| ai @b20 <| ai @h22 <| ai @h23 <| ai @h24 <| ai @hx2 <| ai @hen2 <| ai @hb <| @htl2); repeat' (first | refine zS ?_ | exact zE | with_reducible apply And.intro | with_reducible exact zB0 | with_reducible refine zB fun hb => ?_ | exact zC | refine zT ?_ | fail))
            refine hK2 (ty.cons.length - (j + 1)) _ (by omega) ⟨j + 1, by omega, rfl, ?_⟩
            simp only [go_sem, simprocAttr, h1, b1, h3, h14, h15, h16, h5, b5, h6, b20, h22, h23, h24, Int.natCast_succ, hts2, List.map_append, hcT, stE_eq]
        · obtain rfl : j = ty.cons.length := by omega
          have hjs := G.js ty.cons.length
          have hcl : (ty.cons.map conT).length = ty.cons.length := List.length_map _
          rw [show ((ty.cons.map conT).take ty.cons.length) = ty.cons.map conT by rw [← hcl, List.take_length]] at hjs
          have hj := c_Join (ty.cons.map conT) ⟨#[32, 124, 32]⟩ (by have := G.l; omega) (show (joinB (ty.cons.map conT)).size ≤ 140737488355328 by omega)
          have hje : joinL (ty.cons.map conT) ⟨#[32, 124, 32]⟩ = joinB (ty.cons.map conT) := rfl
          rw [hje] at hj
          have hmm : (ty.cons.map fun c => stE (conT c)) = (ty.cons.map conT).map stE := by rw [List.map_map]; rfl
          rw [List.take_length, hmm] at b20
          rw [← hcl] at h6
          have hT : typT ty = ⟨#[116, 121, 112, 101, 32]⟩ ++ (preT ty.params ++ ty.name) ++ ⟨#[32, 61, 32]⟩ ++ joinB (ty.cons.map conT) ++ ⟨#[59, 32]⟩ := rfl
          have hsp := preT_size ty.params
          have hsn := G.n
          have hsd : (preT ty.params ++ ty.name).size ≤ 21 := by rw [ByteArray.size_append]; omega
          generalize preT ty.params ++ ty.name = hd at *
          (have hWf := WFx.mk (ai @h1 <| ai @b1 <| ai @h3 <| ai @h14 <| ai @h15 <| ai @h16 <| ai @h5 <| ai @b5 <| ai @h6 <| ai @b20 <| ai @h22 <| ai @h23 <| ai @h24 <| ai @ByteArray.size_append <| ai @stE_frzS <| ai @z2 <| ai @z3 <| @z5); repeat' (first | refine zS ?_ | exact zE | with_reducible apply And.intro | refine zK (hj) ?_ | refine zK (hh) ?_ | with_reducible exact zB0 | with_reducible refine zB fun hb => ?_ | exact zC | refine zT ?_ | fail))
          refine hK (ts.length - (k + 1)) _ (by omega) ⟨k + 1, by omega, rfl, ?_⟩
          simp only [go_sem, simprocAttr, h1, b1, h3, h14, h15, h16, Int.natCast_succ, hts, hT, ByteArray.append_assoc]
    · obtain rfl : k = ts.length := by omega
      rw [List.take_length] at h3
      have hos : (outT ts).size ≤ 70040 * ts.length := by rw [List.take_length] at hos; exact hos
      (have hWf := WFx.mk (ai @h1 <| ai @b1 <| ai @h3 <| ai @h14 <| ai @h15 <| ai @h16 <| @ByteArray.size_append); repeat' (first | refine zS ?_ | exact zE | with_reducible apply And.intro | refine zK (hg) ?_ | refine zK (he) ?_ | with_reducible exact zB0 | with_reducible refine zB fun hb => ?_ | exact zC | refine zT ?_ | fail))
end Go.Proofs.YtahdaknaoogpkaaGreat
