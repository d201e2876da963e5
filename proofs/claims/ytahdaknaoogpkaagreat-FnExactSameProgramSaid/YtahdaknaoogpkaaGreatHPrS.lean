import Derived.Test.YtahdaknaoogpkaaGreatHPrT
import Derived.Test.YtahdaknaoogpkaaGreatPoB
import Derived.Test.YtahdaknaoogpkaaGreatHExTs
/- spec.PrintProgram over the second engine. -/
set_option maxRecDepth 100000
set_option maxHeartbeats 4000000
namespace Go.Proofs.YtahdaknaoogpkaaGreat
set_option linter.unusedVariables false
set_option linter.unusedSimpArgs false
open Go.RowKit Arb
theorem c_specPrint_bad (p : MProgram) (ho : p.ok) (hs : p.sm) (hp : progM p = false) : FCon Tryz.prog 14 [.ag p.enc] (fun r _ => r = .s (.string ⟨#[]⟩)) := by
  have hc := c_specProgramOk p ho hs
  rw [hp, MProgram.enc_eq] at hc
  rw [MProgram.enc_eq]
  refine FCon.intro PM _ Tryz.func14 (by kernel_rfl) rfl _ Tryz.ntmps14 rfl [(7, 10, [], [], (lin [] [0, 1, 2, 3, 4, 5, 6, 7, 8, 9]))] (by decide +kernel) (by simp) (by simp) rfl (by first | rfl | simp only [go_sem]) ?_
  (have hWf := f0; repeat' (first | refine zS ?_ | exact zE | with_reducible apply And.intro | refine zK (hc) ?_ | with_reducible exact zB0 | with_reducible refine zB fun hb => ?_ | exact zC | refine zT ?_ | fail))
theorem js_succ {cs : List MCon} {j : Nat} (h : j < cs.length) : joinB ((cs.take (j + 1)).map conT) = if j = 0 then conT cs[j] else joinB ((cs.take j).map conT) ++ ⟨#[32, 124, 32]⟩ ++ conT cs[j] := by
  have hl : j < (cs.map conT).length := by rw [List.length_map]; exact h
  have := joinB_succ hl
  rw [List.getElem_map, ← List.map_take, ← List.map_take] at this
  exact this
theorem c_specPrint_ok (p : MProgram) (ho : p.ok) (hs : p.sm) (hp : progM p = true) (t : ET) (ht : p.nodes = Arb.lay EI.node 0 t) (ok : okT t) (hz : t.size ≤ 600) (htl : p.types.length ≤ 8) (hty : p.types.all typeM = true) : FCon Tryz.prog 14 [.ag p.enc] (fun r _ => r = .s (.string (progT p t))) := by
  have hc := c_specProgramOk p ho hs
  rw [hp, MProgram.enc_eq] at hc
  have hA := At.zero (f := EI.node) t
  rw [← ht] at hA
  have gn := go_of ho hs ht
  have he := c_l04Expr p.types p.nodes (by have := congrArg List.length ht; rw [Arb.lay_len] at this; omega) t 0 hA ok gn
  have hes := etx_le ok gn (by omega)
  have hG : ∀ x ∈ p.types, TyG x := fun x hx => typeM_g (List.all_eq_true.1 hty x hx)
  have hO := ho.1
  unfold XS at he
  unfold progT
  clear hA ht gn hs ho
  rw [MProgram.enc_eq]
  generalize p.types = ts at *
  generalize p.nodes = nodes at *
  generalize etx t = et at *
  refine FCon.intro PM _ Tryz.func14 (by kernel_rfl) rfl _ Tryz.ntmps14 rfl [(7, 10, [], [], (lin [] [0, 1, 2, 3, 4, 5, 6, 7, 8, 9]))] (by decide +kernel) (by simp) (by simp) rfl (by first | rfl | simp only [go_sem]) ?_
  (have hWf := f0; repeat' (first | refine zS ?_ | exact zE | with_reducible apply And.intro | refine zK (hc) ?_ | with_reducible exact zB0 | with_reducible refine zB fun hb => ?_ | exact zC | refine zT ?_ | fail))
  refine AC_loop (fun n σ => ∃ k : Nat, k ≤ ts.length ∧ n = ts.length - k ∧ σ.t 1 = .bx 1 0 ∧ σ.b 1 = some (.box [.sl 3 (ts.map MType.enc), .sl 6 (nodes.map MNode.enc)]) ∧ σ.t 3 = .s (.string (outT (ts.take k))) ∧ σ.t 12 = .sl 3 (ts.map MType.enc) ∧ σ.t 13 = .s (.int .i64 ts.length) ∧ σ.t 14 = .s (.int .i64 k)) ts.length ⟨0, by omega, by omega, ?_⟩ ?_
  · simp only [go_sem, simprocAttr, Int.natCast_zero, List.take_zero]
    rfl
  · rintro n σ ⟨k, hk, rfl, h1, b1, h3, h12, h13, h14⟩ K' hK
    have hos := outT_size hG k hk
    by_cases hlt : k < ts.length
    · have hx := getD_map MType.enc ts k hlt
      have hen := MType.enc_eq ts[k]
      have hm := List.getElem_mem hlt
      have G := hG _ hm
      have hO' := (hO _ hm).2.2
      have hgl := G.l
      have hsn := G.n
      have hp0 : 0 ≤ ts[k].params := by have := G.p; omega
      have hp2 : ts[k].params ≤ 2 := by have := G.p; omega
      have hts := outT_succ hlt
      have hT : typT ts[k] = ⟨#[116, 121, 112, 101, 32]⟩ ++ (preT ts[k].params ++ ts[k].name) ++ ⟨#[32, 61, 32]⟩ ++ joinB (ts[k].cons.map conT) ++ ⟨#[59, 32]⟩ := rfl
      have hpr : ([[.s (.string ⟨#[]⟩)], [.s (.string ⟨#[39, 97, 32]⟩)], [.s (.string ⟨#[40, 39, 97, 44, 32, 39, 98, 41, 32]⟩)]] : List (List D)).getD ts[k].params.toNat [] = [.s (.string (preT ts[k].params))] := by
        rcases G.p with h | h | h <;> (rw [h]; rfl)
      have hsp := preT_size ts[k].params
      generalize outT (ts.take k) = O at *
      generalize ts[k] = ty at *
      (have hWf := WFx.mk (ai @h1 <| ai @b1 <| ai @h3 <| ai @h12 <| ai @h13 <| ai @h14 <| ai @hx <| ai @hen <| ai @hpr <| ai @ByteArray.size_append <| ai @z5 <| @z3); repeat' (first | refine zS ?_ | exact zE | with_reducible apply And.intro | with_reducible exact zB0 | with_reducible refine zB fun hb => ?_ | exact zC | refine zT ?_ | fail))
      obtain ⟨P, hP⟩ : ∃ P, P = O ++ ⟨#[116, 121, 112, 101, 32]⟩ ++ preT ty.params ++ ty.name ++ ⟨#[32, 61, 32]⟩ := ⟨_, rfl⟩
      have hPz : P.size ≤ O.size + 50 := by rw [hP]; simp only [ByteArray.size_append, z3, z5]; omega
      rw [← hP]
      refine AC_loop (fun n σ => ∃ j : Nat, j ≤ ty.cons.length ∧ n = ty.cons.length - j ∧ σ.t 1 = .bx 1 0 ∧ σ.b 1 = some (.box [.sl 3 (ts.map MType.enc), .sl 6 (nodes.map MNode.enc)]) ∧ σ.t 3 = .s (.string (P ++ joinB ((ty.cons.take j).map conT))) ∧ σ.t 12 = .sl 3 (ts.map MType.enc) ∧ σ.t 13 = .s (.int .i64 ts.length) ∧ σ.t 14 = .s (.int .i64 k) ∧ σ.t 31 = .sl 3 (ty.cons.map MCon.enc) ∧ σ.t 32 = .s (.int .i64 ty.cons.length) ∧ σ.t 33 = .s (.int .i64 j)) ty.cons.length ⟨0, by omega, by omega, ?_⟩ ?_
      · simp only [go_sem, simprocAttr, h1, b1, h3, h12, h13, h14, Int.natCast_zero, List.take_zero, List.map_nil, joinB_nil, ByteArray.append_empty]
      · clear h1 b1 h3 h12 h13 h14
        rintro n σ ⟨j, hj, rfl, h1, b1, h3, h12, h13, h14, h31, h32, h33⟩ K2 hK2
        have hsj := G.js j
        rw [← List.map_take] at hsj
        by_cases hlt2 : j < ty.cons.length
        · have hx2 := getD_map MCon.enc ty.cons j hlt2
          have hm2 := List.getElem_mem hlt2
          have C := G.c _ hm2
          have hoc := (hO' _ hm2).2.2
          have hn12 := conOk_12 C
          have hjs2 := js_succ hlt2
          generalize ty.cons[j] = c at *
          have hen2 := MCon.enc_eq c
          cases hb : c.has with
          | true =>
            have hty := conOk_ty C hb
            have hz2 := tyT_size hty
            obtain ⟨q1, q2, q3⟩ := tyOk_parts hty
            have hpt := c_l04Ty c.arg q2 q1 c.arg.length 0 c.arg.length (by omega) q3
            have hcT : conT c = c.name ++ ⟨#[32, 111, 102, 32]⟩ ++ bs (textT c.arg c.arg.length 0) := by unfold conT; rw [if_pos hb]
            by_cases hj0 : j = 0
            · have hd : decide ((0 : Int) < (j : Int)) = false := by simp; omega
              rw [if_pos hj0] at hjs2
              have hjn : joinB ((ty.cons.take j).map conT) = ByteArray.empty := by rw [hj0, List.take_zero]; rfl
              rw [hjn, ByteArray.append_empty] at h3
              (have hWf := WFx.mk (ai @h1 <| ai @b1 <| ai @h3 <| ai @h12 <| ai @h13 <| ai @h14 <| ai @h31 <| ai @h32 <| ai @h33 <| ai @hx2 <| ai @hen2 <| ai @hb <| ai @hd <| ai @ByteArray.size_append <| ai @z3 <| @z4); repeat' (first | refine zS ?_ | exact zE | with_reducible apply And.intro | refine zK (hpt) ?_ | with_reducible exact zB0 | with_reducible refine zB fun hb => ?_ | exact zC | refine zT ?_ | fail))
              refine hK2 (ty.cons.length - (j + 1)) _ (by omega) ⟨j + 1, by omega, rfl, ?_⟩
              simp only [go_sem, simprocAttr, h1, b1, h3, h12, h13, h14, h31, h32, h33, Int.natCast_succ, hjs2, hcT, ByteArray.append_assoc]
            · have hd : decide ((0 : Int) < (j : Int)) = true := by simp; omega
              rw [if_neg hj0] at hjs2
              (have hWf := WFx.mk (ai @h1 <| ai @b1 <| ai @h3 <| ai @h12 <| ai @h13 <| ai @h14 <| ai @h31 <| ai @h32 <| ai @h33 <| ai @hx2 <| ai @hen2 <| ai @hb <| ai @hd <| ai @ByteArray.size_append <| ai @z3 <| @z4); repeat' (first | refine zS ?_ | exact zE | with_reducible apply And.intro | refine zK (hpt) ?_ | with_reducible exact zB0 | with_reducible refine zB fun hb => ?_ | exact zC | refine zT ?_ | fail))
              refine hK2 (ty.cons.length - (j + 1)) _ (by omega) ⟨j + 1, by omega, rfl, ?_⟩
              simp only [go_sem, simprocAttr, h1, b1, h3, h12, h13, h14, h31, h32, h33, Int.natCast_succ, hjs2, hcT, ByteArray.append_assoc]
          | false =>
            have hcT : conT c = c.name := by unfold conT; rw [if_neg (by rw [hb]; simp)]
            by_cases hj0 : j = 0
            · have hd : decide ((0 : Int) < (j : Int)) = false := by simp; omega
              rw [if_pos hj0] at hjs2
              have hjn : joinB ((ty.cons.take j).map conT) = ByteArray.empty := by rw [hj0, List.take_zero]; rfl
              rw [hjn, ByteArray.append_empty] at h3
              (have hWf := WFx.mk (ai @h1 <| ai @b1 <| ai @h3 <| ai @h12 <| ai @h13 <| ai @h14 <| ai @h31 <| ai @h32 <| ai @h33 <| ai @hx2 <| ai @hen2 <| ai @hb <| ai @hd <| ai @ByteArray.size_append <| ai @z3 <| @z4); repeat' (first | refine zS ?_ | exact zE | with_reducible apply And.intro | with_reducible exact zB0 | with_reducible refine zB fun hb => ?_ | exact zC | refine zT ?_ | fail))
              refine hK2 (ty.cons.length - (j + 1)) _ (by omega) ⟨j + 1, by omega, rfl, ?_⟩
              simp only [go_sem, simprocAttr, h1, b1, h3, h12, h13, h14, h31, h32, h33, Int.natCast_succ, hjs2, hcT, ByteArray.append_assoc]
            · have hd : decide ((0 : Int) < (j : Int)) = true := by simp; omega
              rw [if_neg hj0] at hjs2
              (have hWf := WFx.mk (ai @h1 <| ai @b1 <| ai @h3 <| ai @h12 <| ai @h13 <| ai @h14 <| ai @h31 <| ai @h32 <| ai @h33 <| ai @hx2 <| ai @hen2 <| ai @hb <| ai @hd <| ai @ByteArray.size_append <| ai @z3 <| @z4); repeat' (first | refine zS ?_ | exact zE | with_reducible apply And.intro | with_reducible exact zB0 | with_reducible refine zB fun hb => ?_ | exact zC | refine zT ?_ | fail))
              refine hK2 (ty.cons.length - (j + 1)) _ (by omega) ⟨j + 1, by omega, rfl, ?_⟩
              simp only [go_sem, simprocAttr, h1, b1, h3, h12, h13, h14, h31, h32, h33, Int.natCast_succ, hjs2, hcT, ByteArray.append_assoc]
        · obtain rfl : j = ty.cons.length := by omega
          rw [List.take_length] at h3 hsj
          (have hWf := WFx.mk (ai @h1 <| ai @b1 <| ai @h3 <| ai @h12 <| ai @h13 <| ai @h14 <| ai @h31 <| ai @h32 <| ai @h33 <| ai @ByteArray.size_append <| @z2); repeat' (first | refine zS ?_ | exact zE | with_reducible apply And.intro | with_reducible exact zB0 | with_reducible refine zB fun hb => ?_ | exact zC | refine zT ?_ | fail))
          refine hK (ts.length - (k + 1)) _ (by omega) ⟨k + 1, by omega, rfl, ?_⟩
          simp only [go_sem, simprocAttr, h1, b1, h3, h12, h13, h14, Int.natCast_succ, hts, hT, hP, ByteArray.append_assoc]
    · obtain rfl : k = ts.length := by omega
      rw [List.take_length] at h3
      have hos : (outT ts).size ≤ 70040 * ts.length := by rw [List.take_length] at hos; exact hos
      (have hWf := WFx.mk (ai @h1 <| ai @b1 <| ai @h3 <| ai @h12 <| ai @h13 <| ai @h14 <| @ByteArray.size_append); repeat' (first | refine zS ?_ | exact zE | with_reducible apply And.intro | refine zK (he) ?_ | with_reducible exact zB0 | with_reducible refine zB fun hb => ?_ | exact zC | refine zT ?_ | fail))
end Go.Proofs.YtahdaknaoogpkaaGreat
