import Derived.Test.YthkgncddilkmbaaHStrs
/- Lists; the ten operators; over the second engine. -/
namespace Go.Proofs.Ythkgncddilkmbaa
set_option linter.unusedVariables false
set_option linter.unusedSimpArgs false
open Go.RowKit
theorem toL_inj {a b : ByteArray} (h : a.toList = b.toList) : a = b := by
  rw [ByteArray.toList_eq, ByteArray.toList_eq] at h
  cases a; cases b
  simpa using h
theorem all_bad {α : Type} {p : α → Bool} {l : List α} {k : Nat} (h : k < l.length) (hp : p l[k] = false) : l.all p = false := by
  rw [List.all_eq_false]
  exact ⟨l[k], List.getElem_mem h, by rw [hp]; simp⟩
theorem all_good {α : Type} {p : α → Bool} {l : List α} (h : ∀ x ∈ l.take l.length, p x = true) : l.all p = true := List.all_eq_true.2 (by simpa using h)
theorem take_more {α : Type} {p : α → Prop} {l : List α} {k : Nat} (h : k < l.length) (h1 : ∀ x ∈ l.take k, p x) (h2 : p l[k]) : ∀ x ∈ l.take (k + 1), p x := by
  intro x hx
  rw [List.take_succ_eq_append_getElem h] at hx
  rcases List.mem_append.1 hx with hx | hx
  · exact h1 x hx
  · simp at hx; rw [hx]; exact h2
def primL : List (List UInt8) := [[43], [45], [42], [47], [37], [94], [61], [60, 62], [60], [60, 61]]
def primM (s : ByteArray) : Bool := primL.any fun l => s.toList == l
def primB : List ByteArray := primL.map fun l => ⟨l.toArray⟩
theorem primM_in (s : ByteArray) : inL s primB = primM s := by
  rw [Bool.eq_iff_iff, inL_iff]
  unfold primM primB
  simp only [List.mem_map, List.any_eq_true, beq_iff_eq]
  constructor
  · rintro ⟨l, hl, rfl⟩
    exact ⟨l, hl, by rw [ByteArray.toList_eq]⟩
  · rintro ⟨l, hl, e⟩
    exact ⟨l, hl, toL_inj (by rw [ByteArray.toList_eq, e])⟩
set_option maxRecDepth 100000 in
theorem c_primOps : FCon Try.prog 62 [] (fun r _ => r = .osl 9 1 (primB.map stE)) := by
  refine FCon.intro PM _ Try.func62 (by kernel_rfl) rfl _ Try.ntmps62 rfl [] (by decide +kernel) (by simp) (by simp) rfl (by first | rfl | simp only [go_sem]) ?_
  (have hWf := f0; repeat' (first | refine zS ?_ | exact zE | with_reducible apply And.intro | ((with_reducible intro hb0); revert hb0; with_reducible first | exact zB0 | refine zB fun hb => ?_ | fail) | ((with_reducible apply q_Meet); exact zM) | exact zC | refine zT ?_ | fail))
  rfl
theorem c_prims (s : ByteArray) : FCon Try.prog 58 [.sl 1 (primB.map stE), .s (.string s)] (fun r _ => r = .s (.bool (primM s))) := by
  rw [← primM_in]; exact c_Contains_str primB s
set_option maxRecDepth 100000 in
set_option maxHeartbeats 1000000 in
theorem c_l04Prim (s : ByteArray) : FCon Try.prog 52 [.s (.string s)] (fun r _ => r = .s (.bool (primM s))) := by
  have hpm : primM s = primB.any fun x => s.toList == x.toList := by
    unfold primM primB
    rw [List.any_map]
    congr 1
    funext l
    show _ = (s.toList == (⟨l.toArray⟩ : ByteArray).toList)
    rw [ByteArray.toList_eq (bs := ⟨l.toArray⟩)]
  rw [hpm]
  have hpl : primB.length = 10 := rfl
  refine FCon.intro PM _ Try.func52 (by kernel_rfl) rfl _ Try.ntmps52 rfl [] (by decide +kernel) (by simp) (by simp) rfl (by first | rfl | simp only [go_sem]) ?_
  (have hWf := f0; repeat' (first | refine zS ?_ | exact zE | with_reducible apply And.intro | ((with_reducible intro hb0); revert hb0; with_reducible first | exact zB0 | refine zB fun hb => ?_ | fail) | ((with_reducible apply q_Meet); exact zM) | exact zC | refine zT ?_ | fail))
  refine AC_loop (fun n σ => ∃ k : Nat, k ≤ primB.length ∧ n = primB.length - k ∧ σ.t 0 = .s (.string s) ∧ σ.t 5 = .bs 5 1 primB.length ∧ σ.b 5 = some (.arr 9 1 (primB.map stE)) ∧ σ.t 6 = .s (.int .i64 primB.length) ∧ σ.t 7 = .s (.int .i64 k) ∧ ∀ x ∈ primB.take k, (s.toList == x.toList) = false) primB.length ⟨0, by omega, by omega, ?_⟩ ?_
  · simp only [go_sem, simprocAttr]
    exact ⟨by rw [hpl], rfl, by rw [hpl]; rfl⟩
  · rintro n σ ⟨k, hk, rfl, h0, h5, hb5, h6, h7, hno⟩ K' hK
    by_cases hlt : k < primB.length
    · have hx := getD_map stE primB k hlt
      have he := stE_eq primB[k]
      cases hq : (s.toList == primB[k].toList) with
      | true =>
        (have hWf := WFx.mk (And.intro @h0 <| And.intro @h5 <| And.intro @hb5 <| And.intro @h6 <| And.intro @h7 <| And.intro @hx <| And.intro @he <| @hq); repeat' (first | refine zS ?_ | exact zE | with_reducible apply And.intro | ((with_reducible intro hb0); revert hb0; with_reducible first | exact zB0 | refine zB fun hb => ?_ | fail) | ((with_reducible apply q_Meet); exact zM) | exact zC | refine zT ?_ | fail))
        exact sB (List.any_eq_true.2 ⟨primB[k], List.getElem_mem hlt, hq⟩).symm
      | false =>
        (have hWf := WFx.mk (And.intro @h0 <| And.intro @h5 <| And.intro @hb5 <| And.intro @h6 <| And.intro @h7 <| And.intro @hx <| And.intro @he <| @hq); repeat' (first | refine zS ?_ | exact zE | with_reducible apply And.intro | ((with_reducible intro hb0); revert hb0; with_reducible first | exact zB0 | refine zB fun hb => ?_ | fail) | ((with_reducible apply q_Meet); exact zM) | exact zC | refine zT ?_ | fail))
        refine hK (primB.length - (k + 1)) _ (by omega) ⟨k + 1, by omega, rfl, ?_⟩
        simp only [go_sem, simprocAttr, h0, h5, hb5, h6, Int.natCast_succ]
        exact take_more hlt hno hq
    · obtain rfl : k = primB.length := by omega
      (have hWf := WFx.mk (And.intro @h0 <| And.intro @h5 <| And.intro @hb5 <| And.intro @h6 <| @h7); repeat' (first | refine zS ?_ | exact zE | with_reducible apply And.intro | ((with_reducible intro hb0); revert hb0; with_reducible first | exact zB0 | refine zB fun hb => ?_ | fail) | ((with_reducible apply q_Meet); exact zM) | exact zC | refine zT ?_ | fail))
      exact sB (List.any_eq_false.2 (fun x hx => by have := hno x (by simpa using hx); rw [this]; simp)).symm
end Go.Proofs.Ythkgncddilkmbaa
