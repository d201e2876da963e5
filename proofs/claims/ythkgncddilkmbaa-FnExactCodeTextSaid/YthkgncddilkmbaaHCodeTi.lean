import Derived.Test.YthkgncddilkmbaaHCodeTx
/- CodeText of impl, over the second engine. Printed by cotxt2.py. -/
namespace Go.Proofs.Ythkgncddilkmbaa
set_option linter.unusedVariables false
set_option linter.unusedSimpArgs false
open Go.RowKit
theorem row_fin (l m : List UInt8) (B : ByteArray) (N : Nat) (hN : N = B.size) (hm : m = B.data.toList ++ [10]) : D.bs 10 1 (l.length + N + 1) = D.bs 10 1 (l ++ m).length ∧ Ob.arr 5 1 (l.map u8R ++ strR B ++ [[D.s (.int .u8 10)]]) = Ob.arr 5 1 ((l ++ m).map u8R) := by
  subst hN hm
  have h : B.data.toList.length = B.size := rfl
  have h2 : (strR B).length = B.size := strR_len B
  constructor
  · congr 1
    simp only [List.length_append, List.length_cons, List.length_nil, h]
    omega
  · rw [List.map_append, List.map_append, List.append_assoc]
    rfl
set_option maxRecDepth 100000 in
set_option maxHeartbeats 8000000 in
theorem c_implCodeText (c : MCode) (ho : c.ok) (hs : c.sm) : FCon Try.prog 7 [.ag c.enc] (fun r _ => r = .s (.string (bs (codeT c)))) := by
  have hc := c_implCodeOk c ho hs
  rw [MCode.enc_eq] at hc
  cases hM : codeM c with
  | false =>
    rw [hM] at hc
    have he : codeT c = [] := by unfold codeT; rw [hM]; rfl
    rw [he]
    refine FCon.intro PM _ Try.func7 (by kernel_rfl) rfl _ Try.ntmps7 rfl [(7, 6, [], [], (lin [] [0, 1, 2, 3, 4, 5]))] (by decide +kernel) (by simp) (by simp) rfl (by first | rfl | simp only [go_sem]) ?_
    (have hWf := WFx.mk @MCode.enc_eq; repeat' (first | refine zS ?_ | exact zE | with_reducible apply And.intro | refine zK (hc) ?_ | ((with_reducible intro hb0); revert hb0; with_reducible first | exact zB0 | refine zB fun hb => ?_ | fail) | ((with_reducible apply q_Meet); exact zM) | exact zC | refine zT ?_ | fail))
    all_goals rfl
  | true =>
    rw [hM] at hc
    have he : codeT c = textU c.ins c.ins.length := by unfold codeT; rw [hM]; rfl
    rw [he]
    obtain ⟨hn1, hn2, hins⟩ := codeM_ins hM
    obtain ⟨o1, o2⟩ := ho
    obtain ⟨s1, s2⟩ := hs
    refine FCon.intro PM _ Try.func7 (by kernel_rfl) rfl _ Try.ntmps7 rfl [(7, 6, [], [], (lin [] [0, 1, 2, 3, 4, 5]))] (by decide +kernel) (by simp) (by simp) rfl (by first | rfl | simp only [go_sem]) ?_
    (have hWf := WFx.mk @MCode.enc_eq; repeat' (first | refine zS ?_ | exact zE | with_reducible apply And.intro | refine zK (hc) ?_ | ((with_reducible intro hb0); revert hb0; with_reducible first | exact zB0 | refine zB fun hb => ?_ | fail) | ((with_reducible apply q_Meet); exact zM) | exact zC | refine zT ?_ | fail))
    refine AC_loop (fun n σ => ∃ k : Nat, k ≤ c.ins.length ∧ n = c.ins.length - k ∧ σ.t 3 = .bs 10 1 (textU c.ins k).length ∧ σ.b 10 = some (.arr 5 1 ((textU c.ins k).map u8R)) ∧ σ.t 12 = .sl 4 (c.ins.map MIns.enc) ∧ σ.t 13 = .s (.int .i64 c.ins.length) ∧ σ.t 14 = .s (.int .i64 k)) c.ins.length ⟨0, by omega, by omega, ?_⟩ ?_
    · simp only [go_sem, simprocAttr, Int.natCast_zero]
      exact ⟨rfl, rfl⟩
    · rintro n σ ⟨k, hk, rfl, h3, hb10, h12, h13, h14⟩ K' hK
      by_cases hlt : k < c.ins.length
      · have hx := getD_map MIns.enc c.ins k hlt
        have hI := hins c.ins[k] (List.getElem_mem hlt)
        have hok := o1 c.ins[k] (List.getElem_mem hlt)
        have hsm := s1.2 c.ins[k] (List.getElem_mem hlt)
        have hT := textU_succ hlt
        have hL := textU_len s1.2 k hk
        have hL2 : k * 4200000 ≤ 12600000000 := by omega
        generalize c.ins[k] = x at hx hI hok hsm hT
        obtain ⟨op, a, b, s⟩ := x
        obtain ⟨-, hIa, hIb, -⟩ := hok
        have hb := insM_op hI
        dsimp only [MIns.sm] at hIa hIb hb hsm
        have hN := c_opName op hb.1 hb.2
        have hLd := c_leads op
        have hCt := c_Contains_int [1, 4, 6, 15, 20] op
        have hA := c_implNumText a hIa
        have hB := c_implNumText b hIb
        have hK0 := c_digits (k : Int) (by omega) (by omega)
        have hkT : decL (k : Int).toNat = numT (k : Int) := by rw [numT_nat (by omega)]; simp
        rw [hkT] at hK0
        have hQ := c_implQuote s (by omega)
        have hss := fun h2 => insM_s hI h2
        dsimp only at hss
        have hnl := opN_len op
        have hl1 := numT_len (k : Int)
        have hl2 := numT_len a
        have hl3 := numT_len b
        have hl4 := quoL_len s.data.toList
        have hl5 : s.data.toList.length = s.size := rfl
        have z32 : (#[32] : Array UInt8).size = 1 := rfl
        have z10 : (#[10] : Array UInt8).size = 1 := rfl
        rcases (show op = 2 ∨ op = 20 ∨ op = 4 ∨ op = 7 ∨ op = 16 ∨ op = 1 ∨ op = 6 ∨ op = 15 ∨ (op ≠ 2 ∧ op ≠ 20 ∧ op ≠ 4 ∧ op ≠ 7 ∧ op ≠ 16 ∧ leadsM op = true) ∨ (op ≠ 2 ∧ op ≠ 20 ∧ op ≠ 4 ∧ op ≠ 7 ∧ op ≠ 16 ∧ aB op = false) by unfold aB leadsM; simp; omega) with rfl | rfl | rfl | rfl | rfl | rfl | rfl | rfl | ⟨q2, q20, q4, q7, q16, ql⟩ | ⟨q2, q20, q4, q7, q16, qa⟩
        · have hln : lineL k ⟨2, a, b, s⟩ = numT k ++ (32 :: ((opN 2).data.toList ++ (32 :: quoL s.data.toList ++ [10]))) := rfl
          rw [show leadsM 2 = false from rfl] at hLd
          rw [show decide ((2 : Int) ∈ [1, 4, 6, 15, 20]) = false from rfl] at hCt
          (have hWf := WFx.mk (And.intro @h3 <| And.intro @hb10 <| And.intro @h12 <| And.intro @h13 <| And.intro @h14 <| And.intro @hx <| And.intro @MIns.enc_eq <| And.intro @bs_size <| And.intro @strR_len <| And.intro @ByteArray.size_append <| And.intro @z32 <| @z10); repeat' (first | refine zS ?_ | exact zE | with_reducible apply And.intro | refine zK (hK0) ?_ | refine zK (hN) ?_ | refine zK (hLd) ?_ | refine zK (hCt) ?_ | refine zK (hA) ?_ | refine zK (hB) ?_ | refine zK (hQ) ?_ | ((with_reducible intro hb0); revert hb0; with_reducible first | exact zB0 | refine zB fun hb => ?_ | fail) | ((with_reducible apply q_Meet); exact zM) | exact zC | refine zT ?_ | fail))
          refine hK (c.ins.length - (k + 1)) _ (by omega) ⟨k + 1, by omega, rfl, ?_⟩
          simp only [go_sem, simprocAttr, h3, h12, h13, Int.natCast_succ]
          rw [hT, hln]
          refine row_fin _ _ _ _ ?_ ?_
          · simp only [ByteArray.size_append]; rfl
          · simp only [bA, bs_dat, sp_dat, nl_dat, List.append_assoc, List.cons_append, List.nil_append]
        · have he2 : s.toList.isEmpty = true := hss (by decide)
          have hln : lineL k ⟨20, a, b, s⟩ = numT k ++ (32 :: ((opN 20).data.toList ++ (32 :: numT a ++ (32 :: numT b ++ [10])))) := by unfold lineL; dsimp only; rw [he2]; rfl
          rw [show leadsM 20 = false from rfl] at hLd
          rw [show decide ((20 : Int) ∈ [1, 4, 6, 15, 20]) = true from rfl] at hCt
          (have hWf := WFx.mk (And.intro @h3 <| And.intro @hb10 <| And.intro @h12 <| And.intro @h13 <| And.intro @h14 <| And.intro @hx <| And.intro @MIns.enc_eq <| And.intro @bs_size <| And.intro @strR_len <| And.intro @ByteArray.size_append <| And.intro @z32 <| @z10); repeat' (first | refine zS ?_ | exact zE | with_reducible apply And.intro | refine zK (hK0) ?_ | refine zK (hN) ?_ | refine zK (hLd) ?_ | refine zK (hCt) ?_ | refine zK (hA) ?_ | refine zK (hB) ?_ | refine zK (hQ) ?_ | ((with_reducible intro hb0); revert hb0; with_reducible first | exact zB0 | refine zB fun hb => ?_ | fail) | ((with_reducible apply q_Meet); exact zM) | exact zC | refine zT ?_ | fail))
          refine hK (c.ins.length - (k + 1)) _ (by omega) ⟨k + 1, by omega, rfl, ?_⟩
          simp only [go_sem, simprocAttr, h3, h12, h13, Int.natCast_succ]
          rw [hT, hln]
          refine row_fin _ _ _ _ ?_ ?_
          · simp only [ByteArray.size_append]; rfl
          · simp only [bA, bs_dat, sp_dat, nl_dat, List.append_assoc, List.cons_append, List.nil_append]
        · have he2 : s.toList.isEmpty = false := hss (by decide)
          have hln : lineL k ⟨4, a, b, s⟩ = numT k ++ (32 :: ((opN 4).data.toList ++ (32 :: numT a ++ (32 :: s.data.toList ++ [10])))) := by unfold lineL; dsimp only; rw [he2]; rfl
          rw [show leadsM 4 = false from rfl] at hLd
          rw [show decide ((4 : Int) ∈ [1, 4, 6, 15, 20]) = true from rfl] at hCt
          (have hWf := WFx.mk (And.intro @h3 <| And.intro @hb10 <| And.intro @h12 <| And.intro @h13 <| And.intro @h14 <| And.intro @hx <| And.intro @MIns.enc_eq <| And.intro @bs_size <| And.intro @strR_len <| And.intro @ByteArray.size_append <| And.intro @z32 <| @z10); repeat' (first | refine zS ?_ | exact zE | with_reducible apply And.intro | refine zK (hK0) ?_ | refine zK (hN) ?_ | refine zK (hLd) ?_ | refine zK (hCt) ?_ | refine zK (hA) ?_ | refine zK (hB) ?_ | refine zK (hQ) ?_ | ((with_reducible intro hb0); revert hb0; with_reducible first | exact zB0 | refine zB fun hb => ?_ | fail) | ((with_reducible apply q_Meet); exact zM) | exact zC | refine zT ?_ | fail))
          refine hK (c.ins.length - (k + 1)) _ (by omega) ⟨k + 1, by omega, rfl, ?_⟩
          simp only [go_sem, simprocAttr, h3, h12, h13, Int.natCast_succ]
          rw [hT, hln]
          refine row_fin _ _ _ _ ?_ ?_
          · simp only [ByteArray.size_append]; rfl
          · simp only [bA, bs_dat, sp_dat, nl_dat, List.append_assoc, List.cons_append, List.nil_append]
        · have he2 : s.toList.isEmpty = false := hss (by decide)
          have hln : lineL k ⟨7, a, b, s⟩ = numT k ++ (32 :: ((opN 7).data.toList ++ (32 :: s.data.toList ++ [10]))) := by unfold lineL; dsimp only; rw [he2]; rfl
          rw [show leadsM 7 = false from rfl] at hLd
          rw [show decide ((7 : Int) ∈ [1, 4, 6, 15, 20]) = false from rfl] at hCt
          (have hWf := WFx.mk (And.intro @h3 <| And.intro @hb10 <| And.intro @h12 <| And.intro @h13 <| And.intro @h14 <| And.intro @hx <| And.intro @MIns.enc_eq <| And.intro @bs_size <| And.intro @strR_len <| And.intro @ByteArray.size_append <| And.intro @z32 <| @z10); repeat' (first | refine zS ?_ | exact zE | with_reducible apply And.intro | refine zK (hK0) ?_ | refine zK (hN) ?_ | refine zK (hLd) ?_ | refine zK (hCt) ?_ | refine zK (hA) ?_ | refine zK (hB) ?_ | refine zK (hQ) ?_ | ((with_reducible intro hb0); revert hb0; with_reducible first | exact zB0 | refine zB fun hb => ?_ | fail) | ((with_reducible apply q_Meet); exact zM) | exact zC | refine zT ?_ | fail))
          refine hK (c.ins.length - (k + 1)) _ (by omega) ⟨k + 1, by omega, rfl, ?_⟩
          simp only [go_sem, simprocAttr, h3, h12, h13, Int.natCast_succ]
          rw [hT, hln]
          refine row_fin _ _ _ _ ?_ ?_
          · simp only [ByteArray.size_append]; rfl
          · simp only [bA, bs_dat, sp_dat, nl_dat, List.append_assoc, List.cons_append, List.nil_append]
        · have he2 : s.toList.isEmpty = false := hss (by decide)
          have hln : lineL k ⟨16, a, b, s⟩ = numT k ++ (32 :: ((opN 16).data.toList ++ (32 :: s.data.toList ++ [10]))) := by unfold lineL; dsimp only; rw [he2]; rfl
          rw [show leadsM 16 = false from rfl] at hLd
          rw [show decide ((16 : Int) ∈ [1, 4, 6, 15, 20]) = false from rfl] at hCt
          (have hWf := WFx.mk (And.intro @h3 <| And.intro @hb10 <| And.intro @h12 <| And.intro @h13 <| And.intro @h14 <| And.intro @hx <| And.intro @MIns.enc_eq <| And.intro @bs_size <| And.intro @strR_len <| And.intro @ByteArray.size_append <| And.intro @z32 <| @z10); repeat' (first | refine zS ?_ | exact zE | with_reducible apply And.intro | refine zK (hK0) ?_ | refine zK (hN) ?_ | refine zK (hLd) ?_ | refine zK (hCt) ?_ | refine zK (hA) ?_ | refine zK (hB) ?_ | refine zK (hQ) ?_ | ((with_reducible intro hb0); revert hb0; with_reducible first | exact zB0 | refine zB fun hb => ?_ | fail) | ((with_reducible apply q_Meet); exact zM) | exact zC | refine zT ?_ | fail))
          refine hK (c.ins.length - (k + 1)) _ (by omega) ⟨k + 1, by omega, rfl, ?_⟩
          simp only [go_sem, simprocAttr, h3, h12, h13, Int.natCast_succ]
          rw [hT, hln]
          refine row_fin _ _ _ _ ?_ ?_
          · simp only [ByteArray.size_append]; rfl
          · simp only [bA, bs_dat, sp_dat, nl_dat, List.append_assoc, List.cons_append, List.nil_append]
        · have he2 : s.toList.isEmpty = true := hss (by decide)
          have hln : lineL k ⟨1, a, b, s⟩ = numT k ++ (32 :: ((opN 1).data.toList ++ (32 :: numT a ++ [10]))) := by unfold lineL; dsimp only; rw [he2]; rfl
          rw [show leadsM 1 = false from rfl] at hLd
          rw [show decide ((1 : Int) ∈ [1, 4, 6, 15, 20]) = true from rfl] at hCt
          (have hWf := WFx.mk (And.intro @h3 <| And.intro @hb10 <| And.intro @h12 <| And.intro @h13 <| And.intro @h14 <| And.intro @hx <| And.intro @MIns.enc_eq <| And.intro @bs_size <| And.intro @strR_len <| And.intro @ByteArray.size_append <| And.intro @z32 <| @z10); repeat' (first | refine zS ?_ | exact zE | with_reducible apply And.intro | refine zK (hK0) ?_ | refine zK (hN) ?_ | refine zK (hLd) ?_ | refine zK (hCt) ?_ | refine zK (hA) ?_ | refine zK (hB) ?_ | refine zK (hQ) ?_ | ((with_reducible intro hb0); revert hb0; with_reducible first | exact zB0 | refine zB fun hb => ?_ | fail) | ((with_reducible apply q_Meet); exact zM) | exact zC | refine zT ?_ | fail))
          refine hK (c.ins.length - (k + 1)) _ (by omega) ⟨k + 1, by omega, rfl, ?_⟩
          simp only [go_sem, simprocAttr, h3, h12, h13, Int.natCast_succ]
          rw [hT, hln]
          refine row_fin _ _ _ _ ?_ ?_
          · simp only [ByteArray.size_append]; rfl
          · simp only [bA, bs_dat, sp_dat, nl_dat, List.append_assoc, List.cons_append, List.nil_append]
        · have he2 : s.toList.isEmpty = true := hss (by decide)
          have hln : lineL k ⟨6, a, b, s⟩ = numT k ++ (32 :: ((opN 6).data.toList ++ (32 :: numT a ++ [10]))) := by unfold lineL; dsimp only; rw [he2]; rfl
          rw [show leadsM 6 = false from rfl] at hLd
          rw [show decide ((6 : Int) ∈ [1, 4, 6, 15, 20]) = true from rfl] at hCt
          (have hWf := WFx.mk (And.intro @h3 <| And.intro @hb10 <| And.intro @h12 <| And.intro @h13 <| And.intro @h14 <| And.intro @hx <| And.intro @MIns.enc_eq <| And.intro @bs_size <| And.intro @strR_len <| And.intro @ByteArray.size_append <| And.intro @z32 <| @z10); repeat' (first | refine zS ?_ | exact zE | with_reducible apply And.intro | refine zK (hK0) ?_ | refine zK (hN) ?_ | refine zK (hLd) ?_ | refine zK (hCt) ?_ | refine zK (hA) ?_ | refine zK (hB) ?_ | refine zK (hQ) ?_ | ((with_reducible intro hb0); revert hb0; with_reducible first | exact zB0 | refine zB fun hb => ?_ | fail) | ((with_reducible apply q_Meet); exact zM) | exact zC | refine zT ?_ | fail))
          refine hK (c.ins.length - (k + 1)) _ (by omega) ⟨k + 1, by omega, rfl, ?_⟩
          simp only [go_sem, simprocAttr, h3, h12, h13, Int.natCast_succ]
          rw [hT, hln]
          refine row_fin _ _ _ _ ?_ ?_
          · simp only [ByteArray.size_append]; rfl
          · simp only [bA, bs_dat, sp_dat, nl_dat, List.append_assoc, List.cons_append, List.nil_append]
        · have he2 : s.toList.isEmpty = true := hss (by decide)
          have hln : lineL k ⟨15, a, b, s⟩ = numT k ++ (32 :: ((opN 15).data.toList ++ (32 :: numT a ++ [10]))) := by unfold lineL; dsimp only; rw [he2]; rfl
          rw [show leadsM 15 = false from rfl] at hLd
          rw [show decide ((15 : Int) ∈ [1, 4, 6, 15, 20]) = true from rfl] at hCt
          (have hWf := WFx.mk (And.intro @h3 <| And.intro @hb10 <| And.intro @h12 <| And.intro @h13 <| And.intro @h14 <| And.intro @hx <| And.intro @MIns.enc_eq <| And.intro @bs_size <| And.intro @strR_len <| And.intro @ByteArray.size_append <| And.intro @z32 <| @z10); repeat' (first | refine zS ?_ | exact zE | with_reducible apply And.intro | refine zK (hK0) ?_ | refine zK (hN) ?_ | refine zK (hLd) ?_ | refine zK (hCt) ?_ | refine zK (hA) ?_ | refine zK (hB) ?_ | refine zK (hQ) ?_ | ((with_reducible intro hb0); revert hb0; with_reducible first | exact zB0 | refine zB fun hb => ?_ | fail) | ((with_reducible apply q_Meet); exact zM) | exact zC | refine zT ?_ | fail))
          refine hK (c.ins.length - (k + 1)) _ (by omega) ⟨k + 1, by omega, rfl, ?_⟩
          simp only [go_sem, simprocAttr, h3, h12, h13, Int.natCast_succ]
          rw [hT, hln]
          refine row_fin _ _ _ _ ?_ ?_
          · simp only [ByteArray.size_append]; rfl
          · simp only [bA, bs_dat, sp_dat, nl_dat, List.append_assoc, List.cons_append, List.nil_append]
        · have e2 : (op == 2) = false := by simpa using q2
          have e20 : (op == 20) = false := by simpa using q20
          have e4 : (op == 4) = false := by simpa using q4
          have e7 : (op == 7) = false := by simpa using q7
          have e16 : (op == 16) = false := by simpa using q16
          have he2 : s.toList.isEmpty = true := by rw [hss q2, e4, e7, e16]; rfl
          have hln : lineL k ⟨op, a, b, s⟩ = numT k ++ (32 :: ((opN op).data.toList ++ (32 :: numT a ++ [10]))) := by
            have qa : aB op = true := by unfold aB; rw [ql]; rfl
            unfold lineL; dsimp only; rw [he2, qa, e2, e20]; rfl
          rw [ql] at hLd
          (have hWf := WFx.mk (And.intro @h3 <| And.intro @hb10 <| And.intro @h12 <| And.intro @h13 <| And.intro @h14 <| And.intro @hx <| And.intro @MIns.enc_eq <| And.intro @bs_size <| And.intro @strR_len <| And.intro @ByteArray.size_append <| And.intro @z32 <| And.intro @z10 <| And.intro @e2 <| And.intro @e4 <| And.intro @e7 <| And.intro @e16 <| @e20); repeat' (first | refine zS ?_ | exact zE | with_reducible apply And.intro | refine zK (hK0) ?_ | refine zK (hN) ?_ | refine zK (hLd) ?_ | refine zK (hCt) ?_ | refine zK (hA) ?_ | refine zK (hB) ?_ | refine zK (hQ) ?_ | ((with_reducible intro hb0); revert hb0; with_reducible first | exact zB0 | refine zB fun hb => ?_ | fail) | ((with_reducible apply q_Meet); exact zM) | exact zC | refine zT ?_ | fail))
          refine hK (c.ins.length - (k + 1)) _ (by omega) ⟨k + 1, by omega, rfl, ?_⟩
          simp only [go_sem, simprocAttr, h3, h12, h13, Int.natCast_succ]
          rw [hT, hln]
          refine row_fin _ _ _ _ ?_ ?_
          · simp only [ByteArray.size_append]; rfl
          · simp only [bA, bs_dat, sp_dat, nl_dat, List.append_assoc, List.cons_append, List.nil_append]
        · have e2 : (op == 2) = false := by simpa using q2
          have e20 : (op == 20) = false := by simpa using q20
          have e4 : (op == 4) = false := by simpa using q4
          have e7 : (op == 7) = false := by simpa using q7
          have e16 : (op == 16) = false := by simpa using q16
          have he2 : s.toList.isEmpty = true := by rw [hss q2, e4, e7, e16]; rfl
          have hln : lineL k ⟨op, a, b, s⟩ = numT k ++ (32 :: ((opN op).data.toList ++ [10])) := by unfold lineL; dsimp only; rw [he2, qa, e2, e20]; rfl
          unfold aB at qa
          simp only [Bool.or_eq_false_iff] at qa
          obtain ⟨⟨⟨⟨⟨ql, e1⟩, -⟩, e6⟩, e15⟩, -⟩ := qa
          have hct : decide (op ∈ [1, 4, 6, 15, 20]) = false := by
            simp at e1 e6 e15
            simp [e1, e6, e15, q4, q20]
          rw [ql] at hLd
          rw [hct] at hCt
          (have hWf := WFx.mk (And.intro @h3 <| And.intro @hb10 <| And.intro @h12 <| And.intro @h13 <| And.intro @h14 <| And.intro @hx <| And.intro @MIns.enc_eq <| And.intro @bs_size <| And.intro @strR_len <| And.intro @ByteArray.size_append <| And.intro @z32 <| And.intro @z10 <| And.intro @e2 <| And.intro @e4 <| And.intro @e7 <| And.intro @e16 <| @e20); repeat' (first | refine zS ?_ | exact zE | with_reducible apply And.intro | refine zK (hK0) ?_ | refine zK (hN) ?_ | refine zK (hLd) ?_ | refine zK (hCt) ?_ | refine zK (hA) ?_ | refine zK (hB) ?_ | refine zK (hQ) ?_ | ((with_reducible intro hb0); revert hb0; with_reducible first | exact zB0 | refine zB fun hb => ?_ | fail) | ((with_reducible apply q_Meet); exact zM) | exact zC | refine zT ?_ | fail))
          refine hK (c.ins.length - (k + 1)) _ (by omega) ⟨k + 1, by omega, rfl, ?_⟩
          simp only [go_sem, simprocAttr, h3, h12, h13, Int.natCast_succ]
          rw [hT, hln]
          refine row_fin _ _ _ _ ?_ ?_
          · simp only [ByteArray.size_append]; rfl
          · simp only [bA, bs_dat, sp_dat, nl_dat, List.append_assoc, List.cons_append, List.nil_append]
      · obtain rfl : k = c.ins.length := by omega
        have hL := textU_len s1.2 c.ins.length (by omega)
        have hL2 : c.ins.length * 4200000 ≤ 12600000000 := by omega
        (have hWf := WFx.mk (And.intro @h3 <| And.intro @hb10 <| And.intro @h12 <| And.intro @h13 <| And.intro @h14 <| @rowsB_map); repeat' (first | refine zS ?_ | exact zE | with_reducible apply And.intro | ((with_reducible intro hb0); revert hb0; with_reducible first | exact zB0 | refine zB fun hb => ?_ | fail) | ((with_reducible apply q_Meet); exact zM) | exact zC | refine zT ?_ | fail))
        · intro r hr
          obtain ⟨b, -, rfl⟩ := List.mem_map.1 hr
          exact ⟨b, rfl⟩
        · rfl
end Go.Proofs.Ythkgncddilkmbaa
