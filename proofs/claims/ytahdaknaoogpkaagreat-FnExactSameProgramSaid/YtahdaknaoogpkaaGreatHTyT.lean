import Derived.Test.YtahdaknaoogpkaaGreatHNumQ
import Derived.Test.YtahdaknaoogpkaaGreatNmB
import Derived.Test.YtahdaknaoogpkaaGreatTyTxtL
/- The text of a type, of both texts, over the second engine. -/
set_option maxRecDepth 100000
set_option maxHeartbeats 4000000
namespace Go.Proofs.YtahdaknaoogpkaaGreat
set_option linter.unusedVariables false
set_option linter.unusedSimpArgs false
open Go.RowKit
theorem tx_one (t : List UInt8) (s : ByteArray) : bs ([40] ++ t ++ [41, 32] ++ s.data.toList) = (((⟨#[40]⟩ : ByteArray) ++ bs t) ++ (⟨#[41, 32]⟩ : ByteArray)) ++ s := by
  rw [← str_app, ← str_app, ← str_app, bs_of]; rfl
theorem tx_op (t u : List UInt8) (s : ByteArray) : bs ([40] ++ t ++ [32] ++ s.data.toList ++ [32] ++ u ++ [41]) = ((((((⟨#[40]⟩ : ByteArray) ++ bs t) ++ (⟨#[32]⟩ : ByteArray)) ++ s) ++ (⟨#[32]⟩ : ByteArray)) ++ bs u) ++ (⟨#[41]⟩ : ByteArray) := by
  rw [← str_app, ← str_app, ← str_app, ← str_app, ← str_app, ← str_app, bs_of]; rfl
theorem tx_two (t u : List UInt8) (s : ByteArray) : bs ([40] ++ t ++ [44, 32] ++ u ++ [41, 32] ++ s.data.toList) = (((((⟨#[40]⟩ : ByteArray) ++ bs t) ++ (⟨#[44, 32]⟩ : ByteArray)) ++ bs u) ++ (⟨#[41, 32]⟩ : ByteArray)) ++ s := by
  rw [← str_app, ← str_app, ← str_app, ← str_app, ← str_app, bs_of]; rfl
theorem y1 (a : UInt8) : (⟨#[a]⟩ : ByteArray).size = 1 := rfl
theorem y2 (a b : UInt8) : (⟨#[a, b]⟩ : ByteArray).size = 2 := rfl
theorem varT_big {v : Int} (h : 25 < v) : bs (varT v) = (⟨#[39, 122]⟩ : ByteArray) ++ bs (numT v) := by
  unfold varT; rw [if_pos h, ← str_app]; rfl
theorem u8_of {n : Nat} (h : n < 26) : [D.s (Value.int IntKind.u8 (97 + ↑n))] = u8R (UInt8.ofNat (97 + n)) := by
  have : ((UInt8.ofNat (97 + n)).toNat : Int) = 97 + n := by rw [UInt8.toNat_ofNat']; omega
  rw [u8R_eq, this]
theorem varT_small {n : Nat} (h : n < 26) : bs (varT n) = (⟨#[39]⟩ : ByteArray) ++ ⟨#[UInt8.ofNat (97 + n)]⟩ := by
  unfold varT; rw [if_neg (by omega), show (⟨#[39]⟩ : ByteArray) = bs [39] from rfl, show (⟨#[UInt8.ofNat (97 + n)]⟩ : ByteArray) = bs [UInt8.ofNat (97 + n)] from rfl, str_app]; rfl
theorem rows_u8 (b : UInt8) : rowsB [u8R b] = ⟨#[b]⟩ := rowsB_map [b]
theorem c_implVarText (v : Int) (h0 : 0 ≤ v) (h1 : v ≤ 9999) : FCon Tryz.prog 199 [.s (.int .i64 v)] (fun r _ => r = .s (.string (bs (varT v)))) := by
  by_cases hb : 25 < v
  · rw [varT_big hb]
    have c1 := c_implNumText v ⟨by omega, by omega⟩
    have hn := numT_len v
    refine FCon.intro PM _ Tryz.func199 (by kernel_rfl) rfl _ Tryz.ntmps199 rfl [] (by decide +kernel) (by simp) (by simp) rfl (by first | rfl | simp only [go_sem]) ?_
    (have hWf := WFx.mk (ai @ByteArray.size_append <| ai @y2 <| @bs_size); repeat' (first | refine zS ?_ | exact zE | with_reducible apply And.intro | refine zK (c1) ?_ | with_reducible exact zB0 | with_reducible refine zB fun hb => ?_ | exact zC | refine zT ?_ | fail))
  · obtain ⟨n, rfl⟩ : ∃ n : Nat, v = n := ⟨v.toNat, by omega⟩
    have hn : n < 26 := by omega
    clear h0 h1 hb
    rw [varT_small hn]
    have hu := u8_of hn
    refine FCon.intro PM _ Tryz.func199 (by kernel_rfl) rfl _ Tryz.ntmps199 rfl [] (by decide +kernel) (by simp) (by simp) rfl (by first | rfl | simp only [go_sem]) ?_
    (have hWf := f0; repeat' (first | refine zS ?_ | exact zE | with_reducible apply And.intro | with_reducible exact zB0 | with_reducible refine zB fun hb => ?_ | exact zC | refine zT ?_ | fail))
    all_goals first | exact ⟨_, hu⟩ | (rw [hu, rows_u8]; done) | (rw [hu, rows_u8]; exact (by decide : ((2 : Nat) : Int) ≤ 9223372036854775807))
theorem c_l04Var (v : Int) (h0 : 0 ≤ v) (h1 : v ≤ 9999) : FCon Tryz.prog 107 [.s (.int .i64 v)] (fun r _ => r = .s (.string (bs (varT v)))) := by
  by_cases hb : 25 < v
  · rw [varT_big hb]
    have c1 := c_specNumText v ⟨by omega, by omega⟩
    have hn := numT_len v
    refine FCon.intro PM _ Tryz.func107 (by kernel_rfl) rfl _ Tryz.ntmps107 rfl [] (by decide +kernel) (by simp) (by simp) rfl (by first | rfl | simp only [go_sem]) ?_
    (have hWf := WFx.mk (ai @ByteArray.size_append <| ai @y2 <| @bs_size); repeat' (first | refine zS ?_ | exact zE | with_reducible apply And.intro | refine zK (c1) ?_ | with_reducible exact zB0 | with_reducible refine zB fun hb => ?_ | exact zC | refine zT ?_ | fail))
  · obtain ⟨n, rfl⟩ : ∃ n : Nat, v = n := ⟨v.toNat, by omega⟩
    have hn : n < 26 := by omega
    clear h0 h1 hb
    rw [varT_small hn]
    have hu := u8_of hn
    refine FCon.intro PM _ Tryz.func107 (by kernel_rfl) rfl _ Tryz.ntmps107 rfl [] (by decide +kernel) (by simp) (by simp) rfl (by first | rfl | simp only [go_sem]) ?_
    (have hWf := f0; repeat' (first | refine zS ?_ | exact zE | with_reducible apply And.intro | with_reducible exact zB0 | with_reducible refine zB fun hb => ?_ | exact zC | refine zT ?_ | fail))
    all_goals first | exact ⟨_, hu⟩ | (rw [hu, rows_u8]; done) | (rw [hu, rows_u8]; exact (by decide : ((2 : Nat) : Int) ≤ 9223372036854775807))
theorem c_tyText (xs : List TyI) (hit : ∀ x ∈ xs, itemM x = true) (hl : xs.length ≤ 200) : ∀ (n k e : Nat), xs.length - k ≤ n → endM xs k = e → FCon Tryz.prog 113 [.sl 3 (xs.map TyI.enc), .s (.int .i64 k)] (fun r _ => r = .tup [.s (.string (bs (textT xs n k))), .s (.int .i64 e)]) := by
  intro n
  induction n with
  | zero => intro k e hn he; have := endM_bd xs k e he; omega
  | succ n ih =>
    intro k e hn he
    obtain ⟨l1, l2, hlt⟩ := endM_bd xs k e he
    have hi := hit _ (List.getElem_mem hlt)
    have hns := itemM_len hi
    obtain ⟨a0, a1⟩ := itemM_ar hi
    have hat := textT_at xs n k hlt
    have h0 := endM_none xs k e hlt he
    have h1 := endM_one xs k e hlt he
    have h2 := endM_two xs k e hlt he
    have hv0 : xs[k].name.toList.isEmpty = true → 0 ≤ xs[k].v ∧ xs[k].v ≤ 9999 ∧ xs[k].ar = 0 := by
      intro hE; unfold itemM at hi; rw [if_pos hE] at hi
      simp only [Bool.and_eq_true, decide_eq_true_eq, beq_iff_eq] at hi; omega
    have hx := getD_map TyI.enc xs k hlt
    have hen := TyI.enc_eq xs[k]
    generalize hxe : xs[k] = x at *
    obtain ⟨xv, s, ar⟩ := x
    dsimp only at hns a0 a1 hat h0 h1 h2 hv0 hen
    have hL := textT_len xs hit n
    clear hi hit
    cases hE : s.toList.isEmpty with
    | true =>
      obtain ⟨v0, v1, rfl⟩ := hv0 hE
      obtain rfl := h0 rfl
      have hT : bs (textT xs (n + 1) k) = bs (varT xv) := by rw [hat, hE, if_pos rfl]
      rw [hT]
      clear h1 h2 hv0 ih hat hL
      refine FCon.intro PM _ Tryz.func113 (by kernel_rfl) rfl _ Tryz.ntmps113 rfl [] (by decide +kernel) (by simp) (by simp) rfl (by first | rfl | simp only [go_sem]) ?_
      (have hWf := WFx.mk (ai @hx <| ai @hen <| ai @hE <| @Int.natCast_succ); repeat' (first | refine zS ?_ | exact zE | with_reducible apply And.intro | refine zK (c_implVarText xv v0 v1) ?_ | with_reducible exact zB0 | with_reducible refine zB fun hb => ?_ | exact zC | refine zT ?_ | fail))
    | false =>
      rcases (show ar = 0 ∨ ar = 1 ∨ ar = 2 by omega) with rfl | rfl | rfl
      · have hT : bs (textT xs (n + 1) k) = s := by rw [hat, hE, if_neg (by simp), if_pos rfl, bs_of]
        obtain rfl := h0 rfl
        rw [hT]
        clear h1 h2 hv0 ih hat hL
        refine FCon.intro PM _ Tryz.func113 (by kernel_rfl) rfl _ Tryz.ntmps113 rfl [] (by decide +kernel) (by simp) (by simp) rfl (by first | rfl | simp only [go_sem]) ?_
        (have hWf := WFx.mk (ai @hx <| ai @hen <| ai @hE <| @Int.natCast_succ); repeat' (first | refine zS ?_ | exact zE | with_reducible apply And.intro | with_reducible exact zB0 | with_reducible refine zB fun hb => ?_ | exact zC | refine zT ?_ | fail))
      · have hT : bs (textT xs (n + 1) k) = bs ([40] ++ textT xs n (k + 1) ++ [41, 32] ++ s.data.toList) := by rw [hat, hE, if_neg (by simp), if_neg (by decide), if_pos rfl]
        have q := h1 rfl
        have c1 := ih (k + 1) e (by omega) q
        have s1 := hL (k + 1) e q
        rw [hT, tx_one]
        clear h1 h2 h0 hv0 ih hat hL hT
        refine FCon.intro PM _ Tryz.func113 (by kernel_rfl) rfl _ Tryz.ntmps113 rfl [] (by decide +kernel) (by simp) (by simp) rfl (by first | rfl | simp only [go_sem]) ?_
        (have hWf := WFx.mk (ai @hx <| ai @hen <| ai @hE <| ai @Int.natCast_succ <| ai @ByteArray.size_append <| ai @y1 <| ai @y2 <| @bs_size); repeat' (first | refine zS ?_ | exact zE | with_reducible apply And.intro | refine zK (c1) ?_ | with_reducible exact zB0 | with_reducible refine zB fun hb => ?_ | exact zC | refine zT ?_ | fail))
      · obtain ⟨e1, q1, q2⟩ := h2 rfl
        have ht : (endM xs (k + 1)).toNat = e1 := by omega
        obtain ⟨b1, b2, b3⟩ := endM_bd xs (k + 1) e1 q1
        have c1 := ih (k + 1) e1 (by omega) q1
        have c2 := ih e1 e (by omega) q2
        have s1 := hL (k + 1) e1 q1
        have s2 := hL e1 e q2
        cases ho1 : (s.toList == [45, 62]) with
        | true =>
          have hT : bs (textT xs (n + 1) k) = bs ([40] ++ textT xs n (k + 1) ++ [32] ++ s.data.toList ++ [32] ++ textT xs n e1 ++ [41]) := by rw [hat, hE, if_neg (by simp), if_neg (by decide), if_neg (by decide), ho1, if_pos (by simp), ht]
          rw [hT, tx_op]
          clear h1 h2 h0 hv0 ih hat hL hT
          refine FCon.intro PM _ Tryz.func113 (by kernel_rfl) rfl _ Tryz.ntmps113 rfl [] (by decide +kernel) (by simp) (by simp) rfl (by first | rfl | simp only [go_sem]) ?_
          (have hWf := WFx.mk (ai @hx <| ai @hen <| ai @hE <| ai @Int.natCast_succ <| ai @ho1 <| ai @lit2 <| ai @lit1 <| ai @ByteArray.size_append <| ai @y1 <| ai @y2 <| @bs_size); repeat' (first | refine zS ?_ | exact zE | with_reducible apply And.intro | refine zK (c1) ?_ | refine zK (c2) ?_ | with_reducible exact zB0 | with_reducible refine zB fun hb => ?_ | exact zC | refine zT ?_ | fail))
        | false =>
          cases ho2 : (s.toList == [42]) with
          | true =>
            have hT : bs (textT xs (n + 1) k) = bs ([40] ++ textT xs n (k + 1) ++ [32] ++ s.data.toList ++ [32] ++ textT xs n e1 ++ [41]) := by rw [hat, hE, if_neg (by simp), if_neg (by decide), if_neg (by decide), ho1, ho2, if_pos (by simp), ht]
            rw [hT, tx_op]
            clear h1 h2 h0 hv0 ih hat hL hT
            refine FCon.intro PM _ Tryz.func113 (by kernel_rfl) rfl _ Tryz.ntmps113 rfl [] (by decide +kernel) (by simp) (by simp) rfl (by first | rfl | simp only [go_sem]) ?_
            (have hWf := WFx.mk (ai @hx <| ai @hen <| ai @hE <| ai @Int.natCast_succ <| ai @ho1 <| ai @ho2 <| ai @lit2 <| ai @lit1 <| ai @ByteArray.size_append <| ai @y1 <| ai @y2 <| @bs_size); repeat' (first | refine zS ?_ | exact zE | with_reducible apply And.intro | refine zK (c1) ?_ | refine zK (c2) ?_ | with_reducible exact zB0 | with_reducible refine zB fun hb => ?_ | exact zC | refine zT ?_ | fail))
          | false =>
            have hT : bs (textT xs (n + 1) k) = bs ([40] ++ textT xs n (k + 1) ++ [44, 32] ++ textT xs n e1 ++ [41, 32] ++ s.data.toList) := by rw [hat, hE, if_neg (by simp), if_neg (by decide), if_neg (by decide), ho1, ho2, if_neg (by simp), ht]
            rw [hT, tx_two]
            clear h1 h2 h0 hv0 ih hat hL hT
            refine FCon.intro PM _ Tryz.func113 (by kernel_rfl) rfl _ Tryz.ntmps113 rfl [] (by decide +kernel) (by simp) (by simp) rfl (by first | rfl | simp only [go_sem]) ?_
            (have hWf := WFx.mk (ai @hx <| ai @hen <| ai @hE <| ai @Int.natCast_succ <| ai @ho1 <| ai @ho2 <| ai @lit2 <| ai @lit1 <| ai @ByteArray.size_append <| ai @y1 <| ai @y2 <| @bs_size); repeat' (first | refine zS ?_ | exact zE | with_reducible apply And.intro | refine zK (c1) ?_ | refine zK (c2) ?_ | with_reducible exact zB0 | with_reducible refine zB fun hb => ?_ | exact zC | refine zT ?_ | fail))
theorem c_l04Ty (xs : List TyI) (hit : ∀ x ∈ xs, itemM x = true) (hl : xs.length ≤ 200) : ∀ (n k e : Nat), xs.length - k ≤ n → endM xs k = e → FCon Tryz.prog 39 [.ag [.sl 3 (xs.map TyI.enc)], .s (.int .i64 k)] (fun r _ => r = .s (.string (bs (textT xs n k)))) := by
  intro n
  induction n with
  | zero => intro k e hn he; have := endM_bd xs k e he; omega
  | succ n ih =>
    intro k e hn he
    obtain ⟨l1, l2, hlt⟩ := endM_bd xs k e he
    have hi := hit _ (List.getElem_mem hlt)
    have hns := itemM_len hi
    obtain ⟨a0, a1⟩ := itemM_ar hi
    have hat := textT_at xs n k hlt
    have h0 := endM_none xs k e hlt he
    have h1 := endM_one xs k e hlt he
    have h2 := endM_two xs k e hlt he
    have hv0 : xs[k].name.toList.isEmpty = true → 0 ≤ xs[k].v ∧ xs[k].v ≤ 9999 ∧ xs[k].ar = 0 := by
      intro hE; unfold itemM at hi; rw [if_pos hE] at hi
      simp only [Bool.and_eq_true, decide_eq_true_eq, beq_iff_eq] at hi; omega
    have hx := getD_map TyI.enc xs k hlt
    have hen := TyI.enc_eq xs[k]
    generalize hxe : xs[k] = x at *
    obtain ⟨xv, s, ar⟩ := x
    dsimp only at hns a0 a1 hat h0 h1 h2 hv0 hen
    have hL := textT_len xs hit n
    have hE1 := c_l04End xs.length xs (items_ar (List.all_eq_true.2 hit)) (by omega) (k + 1) (by omega)
    clear hi hit
    cases hE : s.toList.isEmpty with
    | true =>
      obtain ⟨v0, v1, rfl⟩ := hv0 hE
      obtain rfl := h0 rfl
      have hT : bs (textT xs (n + 1) k) = bs (varT xv) := by rw [hat, hE, if_pos rfl]
      rw [hT]
      clear h1 h2 hv0 ih hat hL
      refine FCon.intro PM _ Tryz.func39 (by kernel_rfl) rfl _ Tryz.ntmps39 rfl [(9, 5, [], [], (lin [] [0, 1, 2, 3, 4]))] (by decide +kernel) (by simp) (by simp) rfl (by first | rfl | simp only [go_sem]) ?_
      (have hWf := WFx.mk (ai @hx <| ai @hen <| ai @hE <| @Int.natCast_succ); repeat' (first | refine zS ?_ | exact zE | with_reducible apply And.intro | refine zK (c_l04Var xv v0 v1) ?_ | with_reducible exact zB0 | with_reducible refine zB fun hb => ?_ | exact zC | refine zT ?_ | fail))
    | false =>
      rcases (show ar = 0 ∨ ar = 1 ∨ ar = 2 by omega) with rfl | rfl | rfl
      · have hT : bs (textT xs (n + 1) k) = s := by rw [hat, hE, if_neg (by simp), if_pos rfl, bs_of]
        obtain rfl := h0 rfl
        rw [hT]
        clear h1 h2 hv0 ih hat hL
        refine FCon.intro PM _ Tryz.func39 (by kernel_rfl) rfl _ Tryz.ntmps39 rfl [(9, 5, [], [], (lin [] [0, 1, 2, 3, 4]))] (by decide +kernel) (by simp) (by simp) rfl (by first | rfl | simp only [go_sem]) ?_
        (have hWf := WFx.mk (ai @hx <| ai @hen <| ai @hE <| @Int.natCast_succ); repeat' (first | refine zS ?_ | exact zE | with_reducible apply And.intro | with_reducible exact zB0 | with_reducible refine zB fun hb => ?_ | exact zC | refine zT ?_ | fail))
      · have hT : bs (textT xs (n + 1) k) = bs ([40] ++ textT xs n (k + 1) ++ [41, 32] ++ s.data.toList) := by rw [hat, hE, if_neg (by simp), if_neg (by decide), if_pos rfl]
        have q := h1 rfl
        have c1 := ih (k + 1) e (by omega) q
        have s1 := hL (k + 1) e q
        rw [hT, tx_one]
        clear h1 h2 h0 hv0 ih hat hL hT
        refine FCon.intro PM _ Tryz.func39 (by kernel_rfl) rfl _ Tryz.ntmps39 rfl [(9, 5, [], [], (lin [] [0, 1, 2, 3, 4]))] (by decide +kernel) (by simp) (by simp) rfl (by first | rfl | simp only [go_sem]) ?_
        (have hWf := WFx.mk (ai @hx <| ai @hen <| ai @hE <| ai @Int.natCast_succ <| ai @ByteArray.size_append <| ai @y1 <| ai @y2 <| @bs_size); repeat' (first | refine zS ?_ | exact zE | with_reducible apply And.intro | refine zK (c1) ?_ | with_reducible exact zB0 | with_reducible refine zB fun hb => ?_ | exact zC | refine zT ?_ | fail))
      · obtain ⟨e1, q1, q2⟩ := h2 rfl
        have ht : (endM xs (k + 1)).toNat = e1 := by omega
        obtain ⟨b1, b2, b3⟩ := endM_bd xs (k + 1) e1 q1
        have c1 := ih (k + 1) e1 (by omega) q1
        have c2 := ih e1 e (by omega) q2
        rw [q1] at hE1
        have s1 := hL (k + 1) e1 q1
        have s2 := hL e1 e q2
        cases ho1 : (s.toList == [45, 62]) with
        | true =>
          have hT : bs (textT xs (n + 1) k) = bs ([40] ++ textT xs n (k + 1) ++ [32] ++ s.data.toList ++ [32] ++ textT xs n e1 ++ [41]) := by rw [hat, hE, if_neg (by simp), if_neg (by decide), if_neg (by decide), ho1, if_pos (by simp), ht]
          rw [hT, tx_op]
          clear h1 h2 h0 hv0 ih hat hL hT
          refine FCon.intro PM _ Tryz.func39 (by kernel_rfl) rfl _ Tryz.ntmps39 rfl [(9, 5, [], [], (lin [] [0, 1, 2, 3, 4]))] (by decide +kernel) (by simp) (by simp) rfl (by first | rfl | simp only [go_sem]) ?_
          (have hWf := WFx.mk (ai @hx <| ai @hen <| ai @hE <| ai @Int.natCast_succ <| ai @ho1 <| ai @lit2 <| ai @lit1 <| ai @ByteArray.size_append <| ai @y1 <| ai @y2 <| @bs_size); repeat' (first | refine zS ?_ | exact zE | with_reducible apply And.intro | refine zK (c1) ?_ | refine zK (c2) ?_ | refine zK (hE1) ?_ | with_reducible exact zB0 | with_reducible refine zB fun hb => ?_ | exact zC | refine zT ?_ | fail))
        | false =>
          cases ho2 : (s.toList == [42]) with
          | true =>
            have hT : bs (textT xs (n + 1) k) = bs ([40] ++ textT xs n (k + 1) ++ [32] ++ s.data.toList ++ [32] ++ textT xs n e1 ++ [41]) := by rw [hat, hE, if_neg (by simp), if_neg (by decide), if_neg (by decide), ho1, ho2, if_pos (by simp), ht]
            rw [hT, tx_op]
            clear h1 h2 h0 hv0 ih hat hL hT
            refine FCon.intro PM _ Tryz.func39 (by kernel_rfl) rfl _ Tryz.ntmps39 rfl [(9, 5, [], [], (lin [] [0, 1, 2, 3, 4]))] (by decide +kernel) (by simp) (by simp) rfl (by first | rfl | simp only [go_sem]) ?_
            (have hWf := WFx.mk (ai @hx <| ai @hen <| ai @hE <| ai @Int.natCast_succ <| ai @ho1 <| ai @ho2 <| ai @lit2 <| ai @lit1 <| ai @ByteArray.size_append <| ai @y1 <| ai @y2 <| @bs_size); repeat' (first | refine zS ?_ | exact zE | with_reducible apply And.intro | refine zK (c1) ?_ | refine zK (c2) ?_ | refine zK (hE1) ?_ | with_reducible exact zB0 | with_reducible refine zB fun hb => ?_ | exact zC | refine zT ?_ | fail))
          | false =>
            have hT : bs (textT xs (n + 1) k) = bs ([40] ++ textT xs n (k + 1) ++ [44, 32] ++ textT xs n e1 ++ [41, 32] ++ s.data.toList) := by rw [hat, hE, if_neg (by simp), if_neg (by decide), if_neg (by decide), ho1, ho2, if_neg (by simp), ht]
            rw [hT, tx_two]
            clear h1 h2 h0 hv0 ih hat hL hT
            refine FCon.intro PM _ Tryz.func39 (by kernel_rfl) rfl _ Tryz.ntmps39 rfl [(9, 5, [], [], (lin [] [0, 1, 2, 3, 4]))] (by decide +kernel) (by simp) (by simp) rfl (by first | rfl | simp only [go_sem]) ?_
            (have hWf := WFx.mk (ai @hx <| ai @hen <| ai @hE <| ai @Int.natCast_succ <| ai @ho1 <| ai @ho2 <| ai @lit2 <| ai @lit1 <| ai @ByteArray.size_append <| ai @y1 <| ai @y2 <| @bs_size); repeat' (first | refine zS ?_ | exact zE | with_reducible apply And.intro | refine zK (c1) ?_ | refine zK (c2) ?_ | refine zK (hE1) ?_ | with_reducible exact zB0 | with_reducible refine zB fun hb => ?_ | exact zC | refine zT ?_ | fail))
end Go.Proofs.YtahdaknaoogpkaaGreat
