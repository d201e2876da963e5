import Derived.Test.YtngobmjdbjlkcaaHa
import Derived.Test.YtngobmjdbjlkcaaHInt
import Derived.Test.YtngobmjdbjlkcaaSrt
/- slices.Sort at []int, over the second engine: the slice is given, it comes back sorted. -/
namespace Go.Proofs.Ytngobmjdbjlkcaa
set_option linter.unusedVariables false
set_option linter.unusedSimpArgs false
open Go.RowKit Go.Sort
def srtI (l : List Int) : List Int := l.mergeSort fun x y => decide (x ≤ y)
theorem srtI_len (l : List Int) : (srtI l).length = l.length := by simp [srtI]
theorem c_Sort (e : Nat) (xs : List Int) (hl : xs.length < 4611686018427387904) : FCon Try.prog 94 [.osl e 1 (xs.map iE)] (fun r o => r = .tup [] ∧ o = [.osl e 1 ((srtI xs).map iE)]) := by
  refine ⟨fun vs w => ?_, fun w g vs hS hu hlen hv => ?_⟩
  · have h1 := Try.func94
    have hname' : ¬ Try.f94.name = "runtime.NumGoroutine" := by decide
    have hbn : ¬ Try.f94.body = none := by decide
    simp [callFunc, h1, hname', hbn]
  · obtain ⟨v, rfl, h0⟩ := one_arg (P := fun j d u => RA g w j d u) hlen hv
    have h0 : Rep g.S g.up w (some (.par 0 0)) (.osl e 1 (xs.map iE)) v := h0
    have fin : ∀ (w' : World) (v' : Value), Below 0 w w' → (∀ b, b < w.heap.size → g.up b = none → w'.heap[b]? = w.heap[b]?) → Rep g.S g.up w' (some (.par 0 0)) (.osl e 1 ((srtI xs).map iE)) v → ∃ v' g' r outs, (Ending.returned (.tuple #[]) : Ending) = .returned v' ∧ Below 0 w w' ∧ (∀ b, b < w.heap.size → g.up b = none → w'.heap[b]? = w.heap[b]?) ∧ (∀ b, g.S b → Gh.S g' b) ∧ (∀ b, b < w.heap.size → g'.S b → g.S b ∨ g.up b ≠ none) ∧ (∀ b, g'.S b → b < w'.heap.size) ∧ (∀ b p, g'.up b = some p → b < w'.heap.size ∧ (b < w.heap.size → g.up b ≠ none) ∧ ¬ g'.S b) ∧ (r = .tup [] ∧ outs = [.osl e 1 ((srtI xs).map iE)]) ∧ RNs g' w' r v' ∧ ∀ (j : Nat) (d : D) (u : Value), outs[j]? = some d → [v][j]? = some u → RU g' w' j d u := by
      intro w' v' b1 b2 b3
      refine ⟨_, g, .tup [], _, rfl, b1, b2, fun _ q => q, fun _ _ q => .inl q, fun b q => Nat.lt_of_lt_of_le (hS b q) b1.size, fun b p q => ⟨Nat.lt_of_lt_of_le (hu b p q).1 b1.size, fun _ => (by rw [q]; simp), (hu b p q).2⟩, ⟨rfl, rfl⟩, ⟨[], rfl, rfl, fun m x u q => by simp at q⟩, fun j d u q1 q2 => ?_⟩
      cases j with
      | zero => simp at q1 q2; subst q1 q2; exact b3
      | succ j => simp at q1
    by_cases hz : xs.length = 0
    · have hx : xs = [] := List.length_eq_zero_iff.1 hz
      subst hx
      obtain ⟨p, c, rfl⟩ : ∃ p c, v = .slice p 0 c := by cases h0 <;> exact ⟨_, _, rfl⟩
      refine (srt_none p c w).mono ?_
      rintro _ w' ⟨rfl, rfl⟩
      exact fin _ undef (Below.refl _ _) (fun _ _ _ => rfl) (by simpa [srtI] using h0)
    · generalize hrows : xs.map iE = rows at h0
      cases h0 with
      | osl0 => exact absurd (by simpa using congrArg List.length hrows) hz
      | @osl _ _ _ _ b c cs k1 k2 k3 k4 k5 k6 k7 =>
        subst hrows
        have hsz : b < w.heap.size := (hu b _ k1).1
        have hlx : xs.length ≤ c := by simpa using k3
        have hcell : ∀ j (hj : j < xs.length), cs[j]? = some (.int .i64 xs[j]) := by
          intro j hj
          have := k7 j 0 (iE xs[j]) (.s (.int .i64 xs[j])) (by rw [List.getElem?_map, List.getElem?_eq_getElem hj]; rfl) rfl
          have := Rep.s_inv this
          have hjc : j < cs.size := by omega
          rw [Array.getD_eq_getD_getElem?, show j * 1 + 0 = j by omega, Array.getElem?_eq_getElem hjc] at this
          rw [Array.getElem?_eq_getElem hjc]
          exact congrArg some this
        have hH : Holds (Value.int .i64) w b 0 xs.toArray := by
          intro j hj
          have hj : j < xs.length := by simpa using hj
          refine ⟨?_, ?_⟩
          · simp only [World.cell?, k2, Nat.zero_add]
            rw [if_neg (by simp), hcell j hj]
            simp [hj]
          · simp [World.frozen?, k2]
        have hcall := srt_some b 0 c xs w hH hsz hl
        rw [show xs.length = (xs.map iE).length by simp] at hcall
        refine hcall.mono ?_
        rintro _ w' ⟨rfl, n, os, rfl⟩
        let F : Array Value → Array Value := putCells (Value.int .i64) 0 (xs.mergeSort fun x y => decide (x ≤ y)).toArray
        have hh : ∀ b', b' < w.heap.size → (grow (putRow (Value.int .i64) (Sort.ahead w n) b 0 (xs.mergeSort fun x y => decide (x ≤ y)).toArray) os).heap[b']? = if b = b' then (w.heap[b']?).map (onCells F) else w.heap[b']? := by
          intro b' hb'
          show ((w.heap.modify b (onCells F)) ++ os)[b']? = _
          rw [Array.getElem?_append_left (by simpa using hb'), Array.getElem?_modify]
        refine fin (grow (putRow (Value.int .i64) (Sort.ahead w n) b 0 (xs.mergeSort fun x y => decide (x ≤ y)).toArray) os) undef ⟨rfl, rfl, rfl, ?_, fun b' hb' => absurd hb' (by omega)⟩ (fun b' hb' hn => ?_) ?_
        · show w.heap.size ≤ ((w.heap.modify b (onCells F)) ++ os).size
          simp
        · rw [hh b' hb', if_neg (fun q => by subst q; rw [k1] at hn; cases hn)]
        · have hb2 := hh b hsz
          rw [if_pos rfl, k2] at hb2
          have hls : (xs.map iE).length = ((srtI xs).map iE).length := by simp [srtI_len]
          rw [hls]
          refine Rep.osl (F cs) k1 hb2 (by rw [← hls]; exact k3) k4 (by simpa [F, putCells] using k5) (fun i row hi => ?_) (fun i j row d hi hj => ?_)
          · rw [List.getElem?_map] at hi
            obtain ⟨y, -, rfl⟩ := Option.map_eq_some_iff.1 hi
            rfl
          · rw [List.getElem?_map] at hi
            obtain ⟨y, hy, rfl⟩ := Option.map_eq_some_iff.1 hi
            obtain ⟨hy1, hy2⟩ := List.getElem?_eq_some_iff.1 hy
            rw [srtI_len] at hy1
            have hj0 : j = 0 := by
              have := (List.getElem?_eq_some_iff.1 hj).1
              simp [iE] at this; exact this
            subst hj0
            have hd : d = .s (.int .i64 y) := by simpa [iE] using hj.symm
            subst hd
            have hval : (F cs).getD (i * 1 + 0) undef = .int .i64 y := by
              have hic : i < cs.size := by omega
              rw [show i * 1 + 0 = i by omega, Array.getD_eq_getD_getElem?]
              simp only [F, putCells, Array.getElem?_mapIdx, Array.getElem?_eq_getElem hic, Option.map_some, Option.getD_some]
              rw [if_pos (by simp; omega)]
              rw [← hy2]
              simp [srtI, hy1]
            rw [hval]
            exact Rep.s rfl
end Go.Proofs.Ytngobmjdbjlkcaa
