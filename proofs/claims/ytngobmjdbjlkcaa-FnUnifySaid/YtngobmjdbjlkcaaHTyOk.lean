import Derived.Test.YtngobmjdbjlkcaaHaB
import Derived.Test.YtngobmjdbjlkcaaBase
/- TyOk of both sides, over the second engine. -/
namespace Go.Proofs.Ytngobmjdbjlkcaa
set_option linter.unusedVariables false
set_option linter.unusedSimpArgs false
open Go.RowKit
theorem sB {a b : Bool} (h : a = b) : D.s (.bool a) = .s (.bool b) := by rw [h]
/-- a contract of the elder road for a function of one text. -/
theorem FCon.ofStr {f : FuncId} {fn : Func} {c : Code} (hf : Try.prog.funcs[f]? = some fn) (hname : (fn.name == "runtime.NumGoroutine") = false) (hb : fn.body = some c) (s : ByteArray) (b : Bool) (h : ∀ w, Calls Try.prog f #[.string s] w fun e w' => e = .returned (.bool b) ∧ Below w.heap.size w w') : FCon Try.prog f [.s (.string s)] (fun r _ => r = .s (.bool b)) := by
  refine FCon.ofBelow (Rv := fun v => v = .bool b) hf hname hb ?_ rfl ?_
  · rintro _ rfl; exact ⟨rfl, rfl⟩
  · intro w S up vs hl hv
    obtain ⟨v, rfl, h'⟩ := one_arg (P := fun _ d u => RB S up w d u) hl hv
    have := Rep.s_inv (show Rep S up w none (.s (.string s)) v from h')
    subst this
    exact (h w).mono fun e w' h => ⟨_, h.1, rfl, h.2⟩
theorem c_implNameOk (s : ByteArray) (hs : s.size ≤ maxLen) : FCon Try.prog 32 [.s (.string s)] (fun r _ => r = .s (.bool (nameM s))) := FCon.ofStr Try.func32 rfl rfl s _ fun w => impl_NameOk w s hs
theorem c_specNameOk (s : ByteArray) (hs : s.size ≤ maxLen) : FCon Try.prog 115 [.s (.string s)] (fun r _ => r = .s (.bool (nameM s))) := FCon.ofStr Try.func115 rfl rfl s _ fun w => spec_NameOk w s hs
theorem c_within (n lo hi : Int) : FCon Try.prog 96 [.s (.int .i64 n), .s (.int .i64 lo), .s (.int .i64 hi)] (fun r _ => r = .s (.bool (decide (lo ≤ n) && decide (n ≤ hi)))) := by
  refine FCon.intro PM _ Try.func96 (by kernel_rfl) rfl _ Try.ntmps96 rfl [] (by decide +kernel) (by simp) (by simp) rfl (by first | rfl | simp only [go_sem]) ?_
  (have hWf := f0; repeat' (first | refine zS ?_ | exact zE | with_reducible apply And.intro | ((with_reducible intro hb0); revert hb0; with_reducible first | exact zB0 | refine zB fun hb => ?_ | fail) | ((with_reducible apply q_Meet); exact zM) | exact zC | refine zT ?_ | fail))
  all_goals exact sB (by simp_all)
theorem lit3 : (⟨#[114, 101, 102]⟩ : ByteArray).toList = [114, 101, 102] := by kernel_rfl
theorem lit2 : (⟨#[45, 62]⟩ : ByteArray).toList = [45, 62] := by kernel_rfl
theorem lit1 : (⟨#[42]⟩ : ByteArray).toList = [42] := by kernel_rfl
theorem lit0 : (⟨#[]⟩ : ByteArray).toList = [] := by kernel_rfl
set_option maxRecDepth 100000 in
set_option maxHeartbeats 1000000 in
theorem c_tyName (x : TyI) (hx : x.ok) (h0 : 0 ≤ x.ar) (h1 : x.ar ≤ 2) (h2 : x.v = 0) (h3 : x.name.toList.isEmpty = false) : FCon Try.prog 139 [.ag x.enc] (fun r _ => r = .s (.bool (itemM x))) := by
  refine FCon.intro PM _ Try.func139 (by kernel_rfl) rfl _ Try.ntmps139 rfl [] (by decide +kernel) (by simp) (by simp) rfl (by first | rfl | simp only [go_sem]) ?_
  (have hWf := WFx.mk (And.intro @TyI.enc_eq <| And.intro @lit1 <| And.intro @lit2 <| @lit3); repeat' (first | refine zS ?_ | exact zE | with_reducible apply And.intro | ((with_reducible apply q_CallG); refine zG (c_implNameOk _ hx.2.1) ?_) | ((with_reducible apply q_CallQ); refine CallQ_mk (c_implNameOk _ hx.2.1) ?_) | ((with_reducible intro hb0); revert hb0; with_reducible first | exact zB0 | refine zB fun hb => ?_ | fail) | ((with_reducible apply q_Meet); exact zM) | exact zC | refine zT ?_ | fail))
  all_goals exact sB (by unfold itemM; simp_all)
set_option maxRecDepth 100000 in
set_option maxHeartbeats 1000000 in
theorem c_l04Item (x : TyI) (hx : x.ok) : FCon Try.prog 101 [.ag x.enc] (fun r _ => r = .s (.bool (itemM x))) := by
  refine FCon.intro PM _ Try.func101 (by kernel_rfl) rfl _ Try.ntmps101 rfl [] (by decide +kernel) (by simp) (by simp) rfl (by first | rfl | simp only [go_sem]) ?_
  (have hWf := WFx.mk (And.intro @TyI.enc_eq <| And.intro @lit0 <| And.intro @lit1 <| And.intro @lit2 <| @lit3); repeat' (first | refine zS ?_ | exact zE | with_reducible apply And.intro | ((with_reducible apply q_CallG); refine zG (c_specNameOk _ hx.2.1) ?_) | ((with_reducible apply q_CallQ); refine CallQ_mk (c_specNameOk _ hx.2.1) ?_) | ((with_reducible intro hb0); revert hb0; with_reducible first | exact zB0 | refine zB fun hb => ?_ | fail) | ((with_reducible apply q_Meet); exact zM) | exact zC | refine zT ?_ | fail))
  all_goals exact sB (by unfold itemM; simp_all; try omega)
theorem decLe {a b : Nat} : decide ((a : Int) ≤ (b : Int)) = decide (a ≤ b) := by rw [Bool.eq_iff_iff]; simp
theorem decLe200 {a : Nat} : decide ((a : Int) ≤ 200) = decide (a ≤ 200) := decLe (b := 200)
theorem beq_nil_false {l : List UInt8} (h : l.isEmpty = false) : (l == []) = false := by cases l <;> simp_all
set_option maxRecDepth 100000 in
set_option maxHeartbeats 1000000 in
theorem c_tyOk (xs : List TyI) (ho : ∀ x ∈ xs, x.ok) (hl : xs.length ≤ 1048576) : FCon Try.prog 103 [.sl 3 (xs.map TyI.enc)] (fun r _ => r = .s (.bool (tyItemsM xs))) := by
  refine FCon.intro PM _ Try.func103 (by kernel_rfl) rfl _ Try.ntmps103 rfl [] (by decide +kernel) (by simp) (by simp) rfl (by first | rfl | simp only [go_sem]) ?_
  (have hWf := f0; repeat' (first | refine zS ?_ | exact zE | with_reducible apply And.intro | ((with_reducible intro hb0); revert hb0; with_reducible first | exact zB0 | refine zB fun hb => ?_ | fail) | ((with_reducible apply q_Meet); exact zM) | exact zC | refine zT ?_ | fail))
  refine AC_loop (fun n σ => ∃ k m : Nat, k ≤ xs.length ∧ n = xs.length - k ∧ σ.t 3 = .s (.int .i64 m) ∧ σ.t 6 = .sl 3 (xs.map TyI.enc) ∧ σ.t 7 = .s (.int .i64 xs.length) ∧ σ.t 8 = .s (.int .i64 k) ∧ m ≤ 1 + 2 * k ∧ restM xs k m = tyItemsM xs) xs.length ⟨0, 1, by omega, by omega, ?_⟩ ?_
  · simp only [go_sem, simprocAttr, Int.natCast_zero, Int.natCast_one, restM_start]

  · rintro n σ ⟨k, m, hk, rfl, h3, h6, h7, h8, hm, hr⟩ K' hK
    by_cases hlt : k < xs.length
    · have hx := getD_map TyI.enc xs k hlt
      have he := TyI.enc_eq xs[k]
      have hox := ho _ (List.getElem_mem hlt)
      rcases Nat.eq_zero_or_pos m with rfl | hm0
      · (have hWf := WFx.mk (And.intro @h3 <| And.intro @h6 <| And.intro @h7 <| And.intro @h8 <| And.intro @hx <| And.intro @he <| @Int.natCast_zero); repeat' (first | refine zS ?_ | exact zE | with_reducible apply And.intro | ((with_reducible intro hb0); revert hb0; with_reducible first | exact zB0 | refine zB fun hb => ?_ | fail) | ((with_reducible apply q_Meet); exact zM) | exact zC | refine zT ?_ | fail))
        exact sB (by rw [← hr, restM_zero xs k hlt])
      · obtain ⟨m, rfl⟩ : ∃ j, m = j + 1 := ⟨m - 1, by omega⟩
        have hm1 : (((m + 1 : Nat) : Int) == 0) = false := by simp; omega
        have hbad : itemM xs[k] = false → false = tyItemsM xs := fun h => by rw [← hr, restM_bad xs k _ hlt h]
        have hgood : itemM xs[k] = true → restM xs (k + 1) (m + xs[k].ar.toNat) = tyItemsM xs := fun h => by rw [← hr, restM_step xs k m hlt h]
        clear hr
        by_cases hn : xs[k].name.toList.isEmpty
        · have hI : itemM xs[k] = (decide (0 ≤ xs[k].v) && decide (xs[k].v ≤ 9999) && (xs[k].ar == 0)) := by unfold itemM; rw [if_pos hn]
          have hn' : xs[k].name.toList = [] := by simpa using hn
          (have hWf := WFx.mk (And.intro @h3 <| And.intro @h6 <| And.intro @h7 <| And.intro @h8 <| And.intro @hx <| And.intro @he <| And.intro @hm1 <| And.intro @lit0 <| @hn'); repeat' (first | refine zS ?_ | exact zE | with_reducible apply And.intro | refine zK (c_within xs[k].v 0 9999) ?_ | ((with_reducible intro hb0); revert hb0; with_reducible first | exact zB0 | refine zB fun hb => ?_ | fail) | ((with_reducible apply q_Meet); exact zM) | exact zC | refine zT ?_ | fail))
          · exact sB (hbad (by rw [hI]; simp at hb ⊢; omega))
          · have hit : itemM xs[k] = true := by rw [hI]; simp at hb ⊢; omega
            have ha : xs[k].ar = 0 := by rw [hI] at hit; simp at hit; omega
            refine hK (xs.length - (k + 1)) _ (by omega) ⟨k + 1, m, by omega, rfl, ?_⟩
            simp only [go_sem, simprocAttr, h3, h6, h7, h8, Int.natCast_succ]
            exact ⟨sI_congr (by omega), by omega, by simpa [ha] using hgood hit⟩
        · have hn' : xs[k].name.toList.isEmpty = false := by simpa using hn
          have hn2 := beq_nil_false hn'
          by_cases hv : xs[k].v = 0
          · have hv' : (xs[k].v != 0) = false := by simp [hv]
            by_cases ha : 0 ≤ xs[k].ar ∧ xs[k].ar ≤ 2
            · have ha1 : decide (0 ≤ xs[k].ar) = true := decide_eq_true ha.1
              have ha2 : decide (xs[k].ar ≤ 2) = true := decide_eq_true ha.2
              (have hWf := WFx.mk (And.intro @h3 <| And.intro @h6 <| And.intro @h7 <| And.intro @h8 <| And.intro @hx <| And.intro @he <| And.intro @hm1 <| And.intro @lit0 <| And.intro @hn2 <| And.intro @hv' <| And.intro @ha1 <| @ha2); repeat' (first | refine zS ?_ | exact zE | with_reducible apply And.intro | refine zK (c_within xs[k].ar 0 2) ?_ | refine zK (c_tyName xs[k] hox ha.1 ha.2 hv hn') ?_ | ((with_reducible intro hb0); revert hb0; with_reducible first | exact zB0 | refine zB fun hb => ?_ | fail) | ((with_reducible apply q_Meet); exact zM) | exact zC | refine zT ?_ | fail))
              · exact sB (hbad (by simpa using hb))
              · refine hK (xs.length - (k + 1)) _ (by omega) ⟨k + 1, m + xs[k].ar.toNat, by omega, rfl, ?_⟩
                simp only [go_sem, simprocAttr, h3, h6, h7, h8, Int.natCast_succ]
                exact ⟨sI_congr (by push_cast; omega), by omega, hgood (by simpa using hb)⟩
            · have ha' : (decide (0 ≤ xs[k].ar) && decide (xs[k].ar ≤ 2)) = false := by simp; omega
              (have hWf := WFx.mk (And.intro @h3 <| And.intro @h6 <| And.intro @h7 <| And.intro @h8 <| And.intro @hx <| And.intro @he <| And.intro @hm1 <| And.intro @lit0 <| And.intro @hn2 <| And.intro @hv' <| @ha'); repeat' (first | refine zS ?_ | exact zE | with_reducible apply And.intro | refine zK (c_within xs[k].ar 0 2) ?_ | ((with_reducible intro hb0); revert hb0; with_reducible first | exact zB0 | refine zB fun hb => ?_ | fail) | ((with_reducible apply q_Meet); exact zM) | exact zC | refine zT ?_ | fail))
              all_goals exact sB (hbad (by cases hI : itemM xs[k] with | false => rfl | true => exact absurd (itemM_ar hI) ha))
          · have hv' : (xs[k].v != 0) = true := by simp [hv]
            (have hWf := WFx.mk (And.intro @h3 <| And.intro @h6 <| And.intro @h7 <| And.intro @h8 <| And.intro @hx <| And.intro @he <| And.intro @hm1 <| And.intro @lit0 <| And.intro @hn2 <| @hv'); repeat' (first | refine zS ?_ | exact zE | with_reducible apply And.intro | refine zK (c_within xs[k].ar 0 2) ?_ | ((with_reducible intro hb0); revert hb0; with_reducible first | exact zB0 | refine zB fun hb => ?_ | fail) | ((with_reducible apply q_Meet); exact zM) | exact zC | refine zT ?_ | fail))
            all_goals exact sB (hbad (by unfold itemM; simp [hn', hv]))
    · obtain rfl : k = xs.length := by omega
      (have hWf := WFx.mk (And.intro @h3 <| And.intro @h6 <| And.intro @h7 <| @h8); repeat' (first | refine zS ?_ | exact zE | with_reducible apply And.intro | ((with_reducible intro hb0); revert hb0; with_reducible first | exact zB0 | refine zB fun hb => ?_ | fail) | ((with_reducible apply q_Meet); exact zM) | exact zC | refine zT ?_ | fail))
      refine sB ?_
      rw [← hr, restM_end xs _ m rfl, Bool.eq_iff_iff, beq_iff_eq, decide_eq_true_eq]
      omega
theorem c_implTyOk (xs : List TyI) (ho : ∀ x ∈ xs, x.ok) (hl : xs.length ≤ 1048576) : FCon Try.prog 48 [.ag [.sl 3 (xs.map TyI.enc)]] (fun r _ => r = .s (.bool (tyOkM xs))) := by
  refine FCon.intro PM _ Try.func48 (by kernel_rfl) rfl _ Try.ntmps48 rfl [] (by decide +kernel) (by simp) (by simp) rfl (by first | rfl | simp only [go_sem]) ?_
  (have hWf := f0; repeat' (first | refine zS ?_ | exact zE | with_reducible apply And.intro | refine zK (c_tyOk xs ho hl) ?_ | ((with_reducible intro hb0); revert hb0; with_reducible first | exact zB0 | refine zB fun hb => ?_ | fail) | ((with_reducible apply q_Meet); exact zM) | exact zC | refine zT ?_ | fail))
  all_goals exact sB (by unfold tyOkM; rw [decLe200])
theorem items_ar {xs : List TyI} (h : xs.all itemM = true) : ∀ x ∈ xs, 0 ≤ x.ar ∧ x.ar ≤ 2 := fun x hx => itemM_ar (List.all_eq_true.1 h x hx)
set_option maxRecDepth 100000 in
set_option maxHeartbeats 1000000 in
theorem c_l04End : ∀ (n : Nat) (xs : List TyI) (hit : ∀ x ∈ xs, 0 ≤ x.ar ∧ x.ar ≤ 2) (hl : xs.length ≤ 1048576) (k : Nat), xs.length - k ≤ n → FCon Try.prog 102 [.ag [.sl 3 (xs.map TyI.enc)], .s (.int .i64 k)] (fun r _ => r = .s (.int .i64 (endM xs k)))
  | n, xs, hit, hl, k, hn => by
    by_cases hk : k < xs.length
    · have hx := getD_map TyI.enc xs k hk
      have he := TyI.enc_eq xs[k]
      have hxi := hit _ (List.getElem_mem hk)
      have hb0 : decide ((k : Int) < 0) = false := by simp
      have hb1 : decide ((k : Int) ≥ xs.length) = false := by simp; omega
      obtain ⟨n, rfl⟩ : ∃ j, n = j + 1 := ⟨n - 1, by omega⟩
      have ih := c_l04End n xs hit hl
      refine FCon.intro PM _ Try.func102 (by kernel_rfl) rfl _ Try.ntmps102 rfl [] (by decide +kernel) (by simp) (by simp) rfl (by first | rfl | simp only [go_sem]) ?_
      (have hWf := WFx.mk (And.intro @hb0 <| @hb1); repeat' (first | refine zS ?_ | exact zE | with_reducible apply And.intro | ((with_reducible intro hb0); revert hb0; with_reducible first | exact zB0 | refine zB fun hb => ?_ | fail) | ((with_reducible apply q_Meet); exact zM) | exact zC | refine zT ?_ | fail))
      refine AC_loop (fun n' σ => ∃ i : Nat, (i : Int) ≤ xs[k].ar ∧ n' = xs[k].ar.toNat - i ∧ σ.t 1 = .s (.int .i64 k) ∧ σ.t 2 = .bx 2 0 ∧ σ.b 2 = some (.box [.sl 3 (xs.map TyI.enc)]) ∧ σ.t 5 = .s (.int .i64 (endsM xs (k + 1) i)) ∧ σ.t 6 = .s (.int .i64 i)) xs[k].ar.toNat ⟨0, by omega, by omega, ?_⟩ ?_
      · simp only [go_sem, simprocAttr, Int.natCast_zero, endsM_zero, Int.natCast_succ]
      · rintro n' σ ⟨i, hi, rfl, h1, h2, h9, h5, h6⟩ K' hK
        have hbd := endsM_bd xs (k + 1) i (by omega)
        by_cases hlt : (i : Int) < xs[k].ar
        · rcases hbd with hneg | ⟨m, hm, hm1, hm2⟩
          · rw [hneg] at h5
            (have hWf := WFx.mk (And.intro @h1 <| And.intro @h2 <| And.intro @h9 <| And.intro @h5 <| And.intro @h6 <| And.intro @hx <| @he); repeat' (first | refine zS ?_ | exact zE | with_reducible apply And.intro | ((with_reducible intro hb0); revert hb0; with_reducible first | exact zB0 | refine zB fun hb => ?_ | fail) | ((with_reducible apply q_Meet); exact zM) | exact zC | refine zT ?_ | fail))
            exact sI_congr (by rw [endM_step xs k hk, endsM_neg xs (k + 1) i (by omega) _ (by omega)])
          · rw [hm] at h5
            have hsc := endsM_succ xs (k + 1) i m hm
            (have hWf := WFx.mk (And.intro @h1 <| And.intro @h2 <| And.intro @h9 <| And.intro @h5 <| And.intro @h6 <| And.intro @hx <| @he); repeat' (first | refine zS ?_ | exact zE | with_reducible apply And.intro | ((with_reducible apply q_CallG); refine zG (ih m (by omega)) ?_) | ((with_reducible apply q_CallQ); refine CallQ_mk (ih m (by omega)) ?_) | ((with_reducible intro hb0); revert hb0; with_reducible first | exact zB0 | refine zB fun hb => ?_ | fail) | ((with_reducible apply q_Meet); exact zM) | exact zC | refine zT ?_ | fail))
            refine hK (xs[k].ar.toNat - (i + 1)) _ (by omega) ⟨i + 1, by omega, rfl, ?_⟩
            simp only [go_sem, simprocAttr, h1, h2, h9, h5, h6, Int.natCast_succ, hsc]
        · (have hWf := WFx.mk (And.intro @h1 <| And.intro @h2 <| And.intro @h9 <| And.intro @h5 <| And.intro @h6 <| And.intro @hx <| @he); repeat' (first | refine zS ?_ | exact zE | with_reducible apply And.intro | ((with_reducible intro hb0); revert hb0; with_reducible first | exact zB0 | refine zB fun hb => ?_ | fail) | ((with_reducible apply q_Meet); exact zM) | exact zC | refine zT ?_ | fail))
          exact sI_congr (by rw [endM_step xs k hk]; congr 1; omega)
    · refine FCon.intro PM _ Try.func102 (by kernel_rfl) rfl _ Try.ntmps102 rfl [] (by decide +kernel) (by simp) (by simp) rfl (by first | rfl | simp only [go_sem]) ?_
      (have hWf := f0; repeat' (first | refine zS ?_ | exact zE | with_reducible apply And.intro | ((with_reducible intro hb0); revert hb0; with_reducible first | exact zB0 | refine zB fun hb => ?_ | fail) | ((with_reducible apply q_Meet); exact zM) | exact zC | refine zT ?_ | fail))
      exact sI_congr (endM_end xs k (by omega)).symm
theorem all_false {xs : List TyI} {k : Nat} (h : k < xs.length) (hb : itemM xs[k] = false) : tyOkM xs = false := by
  unfold tyOkM tyItemsM
  have : xs.all itemM = false := List.all_eq_false.2 ⟨xs[k], List.getElem_mem h, by simp [hb]⟩
  rw [this]; simp
theorem all_take_succ {xs : List TyI} {k : Nat} (h : k < xs.length) (ha : (xs.take k).all itemM = true) (hb : itemM xs[k] = true) : (xs.take (k + 1)).all itemM = true := by
  rw [List.take_succ_eq_append_getElem h, List.all_append, ha, List.all_cons, hb]; rfl
set_option maxRecDepth 100000 in
set_option maxHeartbeats 1000000 in
theorem c_specTyOk (xs : List TyI) (ho : ∀ x ∈ xs, x.ok) (hl : xs.length ≤ 1048576) : FCon Try.prog 47 [.ag [.sl 3 (xs.map TyI.enc)]] (fun r _ => r = .s (.bool (tyOkM xs))) := by
  by_cases h2 : xs.length ≤ 200
  · have h2' : tyOkM xs = tyItemsM xs := by unfold tyOkM; rw [decide_eq_true h2]; rfl
    refine FCon.intro PM _ Try.func47 (by kernel_rfl) rfl _ Try.ntmps47 rfl [(9, 5, [], [], (lin [] [0, 1, 2, 3, 4]))] (by decide +kernel) (by simp) (by simp) rfl (by first | rfl | simp only [go_sem]) ?_
    (have hWf := f0; repeat' (first | refine zS ?_ | exact zE | with_reducible apply And.intro | ((with_reducible intro hb0); revert hb0; with_reducible first | exact zB0 | refine zB fun hb => ?_ | fail) | ((with_reducible apply q_Meet); exact zM) | exact zC | refine zT ?_ | fail))
    refine AC_loop (fun n σ => ∃ k : Nat, k ≤ xs.length ∧ n = xs.length - k ∧ σ.t 1 = .bx 1 0 ∧ σ.b 1 = some (.box [.sl 3 (xs.map TyI.enc)]) ∧ σ.t 10 = .sl 3 (xs.map TyI.enc) ∧ σ.t 11 = .s (.int .i64 xs.length) ∧ σ.t 12 = .s (.int .i64 k) ∧ (xs.take k).all itemM = true) xs.length ⟨0, by omega, by omega, ?_⟩ ?_
    · simp only [go_sem, simprocAttr, Int.natCast_zero, List.take_zero, List.all_nil]
    · rintro n σ ⟨k, hk, rfl, h1, h9, h10, h11, h12, ha⟩ K' hK
      by_cases hlt : k < xs.length
      · have hx := getD_map TyI.enc xs k hlt
        have he := TyI.enc_eq xs[k]
        (have hWf := WFx.mk (And.intro @h1 <| And.intro @h9 <| And.intro @h10 <| And.intro @h11 <| And.intro @h12 <| And.intro @hx <| @he); repeat' (first | refine zS ?_ | exact zE | with_reducible apply And.intro | ((with_reducible apply q_CallG); refine zG (c_l04Item xs[k] (ho _ (List.getElem_mem hlt))) ?_) | ((with_reducible apply q_CallQ); refine CallQ_mk (c_l04Item xs[k] (ho _ (List.getElem_mem hlt))) ?_) | ((with_reducible intro hb0); revert hb0; with_reducible first | exact zB0 | refine zB fun hb => ?_ | fail) | ((with_reducible apply q_Meet); exact zM) | exact zC | refine zT ?_ | fail))
        · exact sB (all_false hlt hb).symm
        · refine hK (xs.length - (k + 1)) _ (by omega) ⟨k + 1, by omega, rfl, ?_⟩
          simp only [go_sem, simprocAttr, h1, h9, h10, h11, h12, Int.natCast_succ]
          exact all_take_succ hlt ha hb
      · obtain rfl : k = xs.length := by omega
        rw [List.take_length] at ha
        (have hWf := WFx.mk (And.intro @h1 <| And.intro @h9 <| And.intro @h10 <| And.intro @h11 <| @h12); repeat' (first | refine zS ?_ | exact zE | with_reducible apply And.intro | ((with_reducible apply q_CallG); refine zG (c_l04End xs.length xs (items_ar ha) hl 0 (by omega)) ?_) | ((with_reducible apply q_CallQ); refine CallQ_mk (c_l04End xs.length xs (items_ar ha) hl 0 (by omega)) ?_) | ((with_reducible intro hb0); revert hb0; with_reducible first | exact zB0 | refine zB fun hb => ?_ | fail) | ((with_reducible apply q_Meet); exact zM) | exact zC | refine zT ?_ | fail))
        refine sB ?_
        rw [h2', tyItemsM, ha, Bool.true_and, Bool.eq_iff_iff]
        simp
  · refine FCon.intro PM _ Try.func47 (by kernel_rfl) rfl _ Try.ntmps47 rfl [(9, 5, [], [], (lin [] [0, 1, 2, 3, 4]))] (by decide +kernel) (by simp) (by simp) rfl (by first | rfl | simp only [go_sem]) ?_
    (have hWf := f0; repeat' (first | refine zS ?_ | exact zE | with_reducible apply And.intro | ((with_reducible intro hb0); revert hb0; with_reducible first | exact zB0 | refine zB fun hb => ?_ | fail) | ((with_reducible apply q_Meet); exact zM) | exact zC | refine zT ?_ | fail))
    exact sB (by unfold tyOkM; rw [decide_eq_false h2]; rfl)
end Go.Proofs.Ytngobmjdbjlkcaa

