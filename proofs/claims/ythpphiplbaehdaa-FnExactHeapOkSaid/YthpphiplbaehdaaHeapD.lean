/- Cells of a heap: the reference's text. -/
import Derived.Test.YthpphiplbaehdaaHeapC
namespace Go.Proofs.Ythpphiplbaehdaa
set_option linter.unusedVariables false
set_option linter.unusedSimpArgs false
open Go.RowKit Go.ChangeShapes Go.WideShapes
set_option maxRecDepth 100000 in
set_option maxHeartbeats 4000000 in
theorem spec_l11Cell_lo (w : World) (ad : Option Addr) (m c : Nat) (hm : m ≤ 1000000000) (kind n : Int) (s : ByteArray) (a b : DVal) (hk : I64 kind) (hn : I64 n) (hs : s.size ≤ maxLen) (ha : valOk a) (hb : valOk b) (hr : kind < 1) :
    Calls Try.prog 70 #[.slice ad m c, .agg #[.int .i64 kind, .int .i64 n, .string s, .int .i64 a.kind, .int .i64 a.n, .string a.s, .int .i64 b.kind, .int .i64 b.n, .string b.s]] w fun e w' => e = .returned (.bool (cellM m ⟨kind, n, s, a, b⟩)) ∧ Below w.heap.size w w' := by
  unfold I64 at hk hn
  have KA := Lib.hid (fun (w : World) => spec_l11Val w ad m c hm a ha)
  have KB := Lib.hid (fun (w : World) => spec_l11Val w ad m c hm b hb)
  clear ha hb
  go_enter Try.func70, Try.ntmps70
  go_wp2_with fail
  all_goals
    go_ret
    refine ⟨ret_b ?_, (by repeat (first | with_reducible exact Below.refl _ _ | with_reducible assumption | with_reducible refine Below.setCell ?_ ?_ _ | with_reducible refine Below.alloc ?_ ?_ _ | with_reducible refine Below.drew ?_ | (with_reducible apply below_chain; with_reducible assumption) | exact Nat.le_refl _ | omega | (simp <;> omega)))⟩
    clear KA KB
    try clear kc1 kf1 hb1
    try clear kc2 kf2 hb2
    try clear kw1_0
    simp_all [cellM, zvM]
    all_goals grind
set_option maxRecDepth 100000 in
set_option maxHeartbeats 4000000 in
theorem spec_l11Cell_hi (w : World) (ad : Option Addr) (m c : Nat) (hm : m ≤ 1000000000) (kind n : Int) (s : ByteArray) (a b : DVal) (hk : I64 kind) (hn : I64 n) (hs : s.size ≤ maxLen) (ha : valOk a) (hb : valOk b) (hr : 6 < kind) :
    Calls Try.prog 70 #[.slice ad m c, .agg #[.int .i64 kind, .int .i64 n, .string s, .int .i64 a.kind, .int .i64 a.n, .string a.s, .int .i64 b.kind, .int .i64 b.n, .string b.s]] w fun e w' => e = .returned (.bool (cellM m ⟨kind, n, s, a, b⟩)) ∧ Below w.heap.size w w' := by
  unfold I64 at hk hn
  have KA := Lib.hid (fun (w : World) => spec_l11Val w ad m c hm a ha)
  have KB := Lib.hid (fun (w : World) => spec_l11Val w ad m c hm b hb)
  clear ha hb
  go_enter Try.func70, Try.ntmps70
  go_wp2_with fail
  all_goals
    go_ret
    refine ⟨ret_b ?_, (by repeat (first | with_reducible exact Below.refl _ _ | with_reducible assumption | with_reducible refine Below.setCell ?_ ?_ _ | with_reducible refine Below.alloc ?_ ?_ _ | with_reducible refine Below.drew ?_ | (with_reducible apply below_chain; with_reducible assumption) | exact Nat.le_refl _ | omega | (simp <;> omega)))⟩
    clear KA KB
    try clear kc1 kf1 hb1
    try clear kc2 kf2 hb2
    try clear kw1_0
    simp_all [cellM, zvM]
    all_goals grind
set_option maxRecDepth 100000 in
set_option maxHeartbeats 4000000 in
theorem spec_l11Cell_a (w : World) (ad : Option Addr) (m c : Nat) (hm : m ≤ 1000000000) (kind n : Int) (s : ByteArray) (a b : DVal) (hk : I64 kind) (hn : I64 n) (hs : s.size ≤ maxLen) (ha : valOk a) (hb : valOk b) (r0 : 1 ≤ kind) (r1 : kind ≤ 6) (hva : valM m a = false) :
    Calls Try.prog 70 #[.slice ad m c, .agg #[.int .i64 kind, .int .i64 n, .string s, .int .i64 a.kind, .int .i64 a.n, .string a.s, .int .i64 b.kind, .int .i64 b.n, .string b.s]] w fun e w' => e = .returned (.bool (cellM m ⟨kind, n, s, a, b⟩)) ∧ Below w.heap.size w w' := by
  unfold I64 at hk hn
  have KA := Lib.hid (fun (w : World) => spec_l11Val w ad m c hm a ha)
  have KB := Lib.hid (fun (w : World) => spec_l11Val w ad m c hm b hb)
  clear ha hb
  have HVA := Lib.hid hva
  clear hva
  go_enter Try.func70, Try.ntmps70
  go_wp2_with (first | (go_at_call 71; refine (KA.out _).mono ?_; rw [HVA.out]; rintro e w1 ⟨rfl, hb1⟩; obtain ⟨kc1, kf1⟩ := bcell hb1; have kz1 := hb1.size; (try simp at kz1); (first | (refine (fun (kw1_0 : w.heap.size  < w1.heap.size) => ?_) ?_; rotate_left; omega) | skip); (first | (refine (fun (kw1_1 : w.heap.size + 1 < w1.heap.size) => ?_) ?_; rotate_left; omega) | skip); (first | (refine (fun (kw1_2 : w.heap.size + 1 + 1 < w1.heap.size) => ?_) ?_; rotate_left; omega) | skip)))
  all_goals
    go_ret
    refine ⟨ret_b ?_, (by repeat (first | with_reducible exact Below.refl _ _ | with_reducible assumption | with_reducible refine Below.setCell ?_ ?_ _ | with_reducible refine Below.alloc ?_ ?_ _ | with_reducible refine Below.drew ?_ | (with_reducible apply below_chain; with_reducible assumption) | exact Nat.le_refl _ | omega | (simp <;> omega)))⟩
    have iHVA := HVA.out
    clear KA KB
    try clear kc1 kf1 hb1
    try clear kc2 kf2 hb2
    try clear kw1_0
    simp_all [cellM, zvM]
    all_goals grind
set_option maxRecDepth 100000 in
set_option maxHeartbeats 4000000 in
theorem spec_l11Cell_two2false (w : World) (ad : Option Addr) (m c : Nat) (hm : m ≤ 1000000000) (kind n : Int) (s : ByteArray) (a b : DVal) (hk : I64 kind) (hn : I64 n) (hs : s.size ≤ maxLen) (ha : valOk a) (hb : valOk b) (hkk : kind = 2) (hva : valM m a = true) (hvb : valM m b = false) :
    Calls Try.prog 70 #[.slice ad m c, .agg #[.int .i64 kind, .int .i64 n, .string s, .int .i64 a.kind, .int .i64 a.n, .string a.s, .int .i64 b.kind, .int .i64 b.n, .string b.s]] w fun e w' => e = .returned (.bool (cellM m ⟨kind, n, s, a, b⟩)) ∧ Below w.heap.size w w' := by
  unfold I64 at hk hn
  have KA := Lib.hid (fun (w : World) => spec_l11Val w ad m c hm a ha)
  have KB := Lib.hid (fun (w : World) => spec_l11Val w ad m c hm b hb)
  clear ha hb
  subst hkk
  have HVA := Lib.hid hva
  clear hva
  have HVB := Lib.hid hvb
  clear hvb
  go_enter Try.func70, Try.ntmps70
  go_wp2_with fail
  refine (KA.out _).mono ?_; rw [HVA.out]; rintro e w1 ⟨rfl, hb1⟩; obtain ⟨kc1, kf1⟩ := bcell hb1; have kz1 := hb1.size; (try simp at kz1); (first | (refine (fun (kw1_0 : w.heap.size  < w1.heap.size) => ?_) ?_; rotate_left; omega) | skip); (first | (refine (fun (kw1_1 : w.heap.size + 1 < w1.heap.size) => ?_) ?_; rotate_left; omega) | skip); (first | (refine (fun (kw1_2 : w.heap.size + 1 + 1 < w1.heap.size) => ?_) ?_; rotate_left; omega) | skip)
  go_wp2_with fail
  refine (KB.out _).mono ?_; rw [HVB.out]; rintro e w2 ⟨rfl, hb2⟩; obtain ⟨kc2, kf2⟩ := bcell hb2; have kz2 := hb2.size; (try simp at kz2); (first | (refine (fun (kw2_0 : w.heap.size  < w2.heap.size) => ?_) ?_; rotate_left; omega) | skip); (first | (refine (fun (kw2_1 : w.heap.size + 1 < w2.heap.size) => ?_) ?_; rotate_left; omega) | skip); (first | (refine (fun (kw2_2 : w.heap.size + 1 + 1 < w2.heap.size) => ?_) ?_; rotate_left; omega) | skip)
  go_wp2_with fail
  all_goals
    go_ret
    refine ⟨ret_b ?_, (by repeat (first | with_reducible exact Below.refl _ _ | with_reducible assumption | with_reducible refine Below.setCell ?_ ?_ _ | with_reducible refine Below.alloc ?_ ?_ _ | with_reducible refine Below.drew ?_ | (with_reducible apply below_chain; with_reducible assumption) | exact Nat.le_refl _ | omega | (simp <;> omega)))⟩
    have iHVA := HVA.out
    have iHVB := HVB.out
    clear KA KB
    try clear kc1 kf1 hb1
    try clear kc2 kf2 hb2
    try clear kw1_0
    simp_all [cellM, zvM]
    all_goals grind
set_option maxRecDepth 100000 in
set_option maxHeartbeats 4000000 in
theorem spec_l11Cell_two6false (w : World) (ad : Option Addr) (m c : Nat) (hm : m ≤ 1000000000) (kind n : Int) (s : ByteArray) (a b : DVal) (hk : I64 kind) (hn : I64 n) (hs : s.size ≤ maxLen) (ha : valOk a) (hb : valOk b) (hkk : kind = 6) (hva : valM m a = true) (hvb : valM m b = false) :
    Calls Try.prog 70 #[.slice ad m c, .agg #[.int .i64 kind, .int .i64 n, .string s, .int .i64 a.kind, .int .i64 a.n, .string a.s, .int .i64 b.kind, .int .i64 b.n, .string b.s]] w fun e w' => e = .returned (.bool (cellM m ⟨kind, n, s, a, b⟩)) ∧ Below w.heap.size w w' := by
  unfold I64 at hk hn
  have KA := Lib.hid (fun (w : World) => spec_l11Val w ad m c hm a ha)
  have KB := Lib.hid (fun (w : World) => spec_l11Val w ad m c hm b hb)
  clear ha hb
  subst hkk
  have HVA := Lib.hid hva
  clear hva
  have HVB := Lib.hid hvb
  clear hvb
  go_enter Try.func70, Try.ntmps70
  go_wp2_with fail
  refine (KA.out _).mono ?_; rw [HVA.out]; rintro e w1 ⟨rfl, hb1⟩; obtain ⟨kc1, kf1⟩ := bcell hb1; have kz1 := hb1.size; (try simp at kz1); (first | (refine (fun (kw1_0 : w.heap.size  < w1.heap.size) => ?_) ?_; rotate_left; omega) | skip); (first | (refine (fun (kw1_1 : w.heap.size + 1 < w1.heap.size) => ?_) ?_; rotate_left; omega) | skip); (first | (refine (fun (kw1_2 : w.heap.size + 1 + 1 < w1.heap.size) => ?_) ?_; rotate_left; omega) | skip)
  go_wp2_with fail
  refine (KB.out _).mono ?_; rw [HVB.out]; rintro e w2 ⟨rfl, hb2⟩; obtain ⟨kc2, kf2⟩ := bcell hb2; have kz2 := hb2.size; (try simp at kz2); (first | (refine (fun (kw2_0 : w.heap.size  < w2.heap.size) => ?_) ?_; rotate_left; omega) | skip); (first | (refine (fun (kw2_1 : w.heap.size + 1 < w2.heap.size) => ?_) ?_; rotate_left; omega) | skip); (first | (refine (fun (kw2_2 : w.heap.size + 1 + 1 < w2.heap.size) => ?_) ?_; rotate_left; omega) | skip)
  go_wp2_with fail
  all_goals
    go_ret
    refine ⟨ret_b ?_, (by repeat (first | with_reducible exact Below.refl _ _ | with_reducible assumption | with_reducible refine Below.setCell ?_ ?_ _ | with_reducible refine Below.alloc ?_ ?_ _ | with_reducible refine Below.drew ?_ | (with_reducible apply below_chain; with_reducible assumption) | exact Nat.le_refl _ | omega | (simp <;> omega)))⟩
    have iHVA := HVA.out
    have iHVB := HVB.out
    clear KA KB
    try clear kc1 kf1 hb1
    try clear kc2 kf2 hb2
    try clear kw1_0
    simp_all [cellM, zvM]
    all_goals grind
set_option maxRecDepth 100000 in
set_option maxHeartbeats 4000000 in
theorem spec_l11Cell_two2true (w : World) (ad : Option Addr) (m c : Nat) (hm : m ≤ 1000000000) (kind n : Int) (s : ByteArray) (a b : DVal) (hk : I64 kind) (hn : I64 n) (hs : s.size ≤ maxLen) (ha : valOk a) (hb : valOk b) (hkk : kind = 2) (hva : valM m a = true) (hvb : valM m b = true) :
    Calls Try.prog 70 #[.slice ad m c, .agg #[.int .i64 kind, .int .i64 n, .string s, .int .i64 a.kind, .int .i64 a.n, .string a.s, .int .i64 b.kind, .int .i64 b.n, .string b.s]] w fun e w' => e = .returned (.bool (cellM m ⟨kind, n, s, a, b⟩)) ∧ Below w.heap.size w w' := by
  unfold I64 at hk hn
  have KA := Lib.hid (fun (w : World) => spec_l11Val w ad m c hm a ha)
  have KB := Lib.hid (fun (w : World) => spec_l11Val w ad m c hm b hb)
  clear ha hb
  subst hkk
  have HVA := Lib.hid hva
  clear hva
  have HVB := Lib.hid hvb
  clear hvb
  go_enter Try.func70, Try.ntmps70
  go_wp2_with fail
  refine (KA.out _).mono ?_; rw [HVA.out]; rintro e w1 ⟨rfl, hb1⟩; obtain ⟨kc1, kf1⟩ := bcell hb1; have kz1 := hb1.size; (try simp at kz1); (first | (refine (fun (kw1_0 : w.heap.size  < w1.heap.size) => ?_) ?_; rotate_left; omega) | skip); (first | (refine (fun (kw1_1 : w.heap.size + 1 < w1.heap.size) => ?_) ?_; rotate_left; omega) | skip); (first | (refine (fun (kw1_2 : w.heap.size + 1 + 1 < w1.heap.size) => ?_) ?_; rotate_left; omega) | skip)
  go_wp2_with fail
  refine (KB.out _).mono ?_; rw [HVB.out]; rintro e w2 ⟨rfl, hb2⟩; obtain ⟨kc2, kf2⟩ := bcell hb2; have kz2 := hb2.size; (try simp at kz2); (first | (refine (fun (kw2_0 : w.heap.size  < w2.heap.size) => ?_) ?_; rotate_left; omega) | skip); (first | (refine (fun (kw2_1 : w.heap.size + 1 < w2.heap.size) => ?_) ?_; rotate_left; omega) | skip); (first | (refine (fun (kw2_2 : w.heap.size + 1 + 1 < w2.heap.size) => ?_) ?_; rotate_left; omega) | skip)
  go_wp2_with fail
  all_goals
    go_ret
    refine ⟨ret_b ?_, (by repeat (first | with_reducible exact Below.refl _ _ | with_reducible assumption | with_reducible refine Below.setCell ?_ ?_ _ | with_reducible refine Below.alloc ?_ ?_ _ | with_reducible refine Below.drew ?_ | (with_reducible apply below_chain; with_reducible assumption) | exact Nat.le_refl _ | omega | (simp <;> omega)))⟩
    have iHVA := HVA.out
    have iHVB := HVB.out
    clear KA KB
    try clear kc1 kf1 hb1
    try clear kc2 kf2 hb2
    try clear kw1_0
    simp_all [cellM, zvM]
    all_goals grind
set_option maxRecDepth 100000 in
set_option maxHeartbeats 4000000 in
theorem spec_l11Cell_two6true (w : World) (ad : Option Addr) (m c : Nat) (hm : m ≤ 1000000000) (kind n : Int) (s : ByteArray) (a b : DVal) (hk : I64 kind) (hn : I64 n) (hs : s.size ≤ maxLen) (ha : valOk a) (hb : valOk b) (hkk : kind = 6) (hva : valM m a = true) (hvb : valM m b = true) :
    Calls Try.prog 70 #[.slice ad m c, .agg #[.int .i64 kind, .int .i64 n, .string s, .int .i64 a.kind, .int .i64 a.n, .string a.s, .int .i64 b.kind, .int .i64 b.n, .string b.s]] w fun e w' => e = .returned (.bool (cellM m ⟨kind, n, s, a, b⟩)) ∧ Below w.heap.size w w' := by
  unfold I64 at hk hn
  have KA := Lib.hid (fun (w : World) => spec_l11Val w ad m c hm a ha)
  have KB := Lib.hid (fun (w : World) => spec_l11Val w ad m c hm b hb)
  clear ha hb
  subst hkk
  have HVA := Lib.hid hva
  clear hva
  have HVB := Lib.hid hvb
  clear hvb
  go_enter Try.func70, Try.ntmps70
  go_wp2_with fail
  refine (KA.out _).mono ?_; rw [HVA.out]; rintro e w1 ⟨rfl, hb1⟩; obtain ⟨kc1, kf1⟩ := bcell hb1; have kz1 := hb1.size; (try simp at kz1); (first | (refine (fun (kw1_0 : w.heap.size  < w1.heap.size) => ?_) ?_; rotate_left; omega) | skip); (first | (refine (fun (kw1_1 : w.heap.size + 1 < w1.heap.size) => ?_) ?_; rotate_left; omega) | skip); (first | (refine (fun (kw1_2 : w.heap.size + 1 + 1 < w1.heap.size) => ?_) ?_; rotate_left; omega) | skip)
  go_wp2_with fail
  refine (KB.out _).mono ?_; rw [HVB.out]; rintro e w2 ⟨rfl, hb2⟩; obtain ⟨kc2, kf2⟩ := bcell hb2; have kz2 := hb2.size; (try simp at kz2); (first | (refine (fun (kw2_0 : w.heap.size  < w2.heap.size) => ?_) ?_; rotate_left; omega) | skip); (first | (refine (fun (kw2_1 : w.heap.size + 1 < w2.heap.size) => ?_) ?_; rotate_left; omega) | skip); (first | (refine (fun (kw2_2 : w.heap.size + 1 + 1 < w2.heap.size) => ?_) ?_; rotate_left; omega) | skip)
  go_wp2_with fail
  all_goals
    go_ret
    refine ⟨ret_b ?_, (by repeat (first | with_reducible exact Below.refl _ _ | with_reducible assumption | with_reducible refine Below.setCell ?_ ?_ _ | with_reducible refine Below.alloc ?_ ?_ _ | with_reducible refine Below.drew ?_ | (with_reducible apply below_chain; with_reducible assumption) | exact Nat.le_refl _ | omega | (simp <;> omega)))⟩
    have iHVA := HVA.out
    have iHVB := HVB.out
    clear KA KB
    try clear kc1 kf1 hb1
    try clear kc2 kf2 hb2
    try clear kw1_0
    simp_all [cellM, zvM]
    all_goals grind
set_option maxRecDepth 100000 in
set_option maxHeartbeats 4000000 in
theorem spec_l11Cell_one (w : World) (ad : Option Addr) (m c : Nat) (hm : m ≤ 1000000000) (kind n : Int) (s : ByteArray) (a b : DVal) (hk : I64 kind) (hn : I64 n) (hs : s.size ≤ maxLen) (ha : valOk a) (hb : valOk b) (r0 : 1 ≤ kind) (r1 : kind ≤ 6) (h2 : ¬ kind = 2) (h6 : ¬ kind = 6) (hva : valM m a = true) (hz : zvM b = true) :
    Calls Try.prog 70 #[.slice ad m c, .agg #[.int .i64 kind, .int .i64 n, .string s, .int .i64 a.kind, .int .i64 a.n, .string a.s, .int .i64 b.kind, .int .i64 b.n, .string b.s]] w fun e w' => e = .returned (.bool (cellM m ⟨kind, n, s, a, b⟩)) ∧ Below w.heap.size w w' := by
  unfold I64 at hk hn
  have KA := Lib.hid (fun (w : World) => spec_l11Val w ad m c hm a ha)
  have KB := Lib.hid (fun (w : World) => spec_l11Val w ad m c hm b hb)
  clear ha hb
  have HZ := Lib.hid hz
  obtain ⟨b1, b2, b3⟩ : b.kind = 0 ∧ b.n = 0 ∧ b.s.toList = [] := by unfold zvM at hz; simpa [and_assoc] using hz
  clear hz
  have HVA := Lib.hid hva
  clear hva
  go_enter Try.func70, Try.ntmps70
  go_wp2_with (first | (go_at_call 71; refine (KA.out _).mono ?_; rw [HVA.out]; rintro e w1 ⟨rfl, hb1⟩; obtain ⟨kc1, kf1⟩ := bcell hb1; have kz1 := hb1.size; (try simp at kz1); (first | (refine (fun (kw1_0 : w.heap.size  < w1.heap.size) => ?_) ?_; rotate_left; omega) | skip); (first | (refine (fun (kw1_1 : w.heap.size + 1 < w1.heap.size) => ?_) ?_; rotate_left; omega) | skip); (first | (refine (fun (kw1_2 : w.heap.size + 1 + 1 < w1.heap.size) => ?_) ?_; rotate_left; omega) | skip)))
  all_goals
    go_ret
    refine ⟨ret_b ?_, (by repeat (first | with_reducible exact Below.refl _ _ | with_reducible assumption | with_reducible refine Below.setCell ?_ ?_ _ | with_reducible refine Below.alloc ?_ ?_ _ | with_reducible refine Below.drew ?_ | (with_reducible apply below_chain; with_reducible assumption) | exact Nat.le_refl _ | omega | (simp <;> omega)))⟩
    have iHVA := HVA.out
    have iHZ := HZ.out
    clear KA KB
    try clear kc1 kf1 hb1
    try clear kc2 kf2 hb2
    try clear kw1_0
    simp_all [cellM, zvM]
    all_goals grind
set_option maxRecDepth 100000 in
set_option maxHeartbeats 4000000 in
theorem spec_l11Cell_none (w : World) (ad : Option Addr) (m c : Nat) (hm : m ≤ 1000000000) (kind n : Int) (s : ByteArray) (a b : DVal) (hk : I64 kind) (hn : I64 n) (hs : s.size ≤ maxLen) (ha : valOk a) (hb : valOk b) (r0 : 1 ≤ kind) (r1 : kind ≤ 6) (h2 : ¬ kind = 2) (h6 : ¬ kind = 6) (hva : valM m a = true) (hz : zvM b = false) :
    Calls Try.prog 70 #[.slice ad m c, .agg #[.int .i64 kind, .int .i64 n, .string s, .int .i64 a.kind, .int .i64 a.n, .string a.s, .int .i64 b.kind, .int .i64 b.n, .string b.s]] w fun e w' => e = .returned (.bool (cellM m ⟨kind, n, s, a, b⟩)) ∧ Below w.heap.size w w' := by
  unfold I64 at hk hn
  have KA := Lib.hid (fun (w : World) => spec_l11Val w ad m c hm a ha)
  have KB := Lib.hid (fun (w : World) => spec_l11Val w ad m c hm b hb)
  clear ha hb
  have HZ := Lib.hid hz
  clear hz
  have HVA := Lib.hid hva
  clear hva
  go_enter Try.func70, Try.ntmps70
  go_wp2_with (first | (go_at_call 71; refine (KA.out _).mono ?_; rw [HVA.out]; rintro e w1 ⟨rfl, hb1⟩; obtain ⟨kc1, kf1⟩ := bcell hb1; have kz1 := hb1.size; (try simp at kz1); (first | (refine (fun (kw1_0 : w.heap.size  < w1.heap.size) => ?_) ?_; rotate_left; omega) | skip); (first | (refine (fun (kw1_1 : w.heap.size + 1 < w1.heap.size) => ?_) ?_; rotate_left; omega) | skip); (first | (refine (fun (kw1_2 : w.heap.size + 1 + 1 < w1.heap.size) => ?_) ?_; rotate_left; omega) | skip)))
  all_goals
    go_ret
    refine ⟨ret_b ?_, (by repeat (first | with_reducible exact Below.refl _ _ | with_reducible assumption | with_reducible refine Below.setCell ?_ ?_ _ | with_reducible refine Below.alloc ?_ ?_ _ | with_reducible refine Below.drew ?_ | (with_reducible apply below_chain; with_reducible assumption) | exact Nat.le_refl _ | omega | (simp <;> omega)))⟩
    have iHVA := HVA.out
    have iHZ := HZ.out
    clear KA KB
    try clear kc1 kf1 hb1
    try clear kc2 kf2 hb2
    try clear kw1_0
    simp_all [cellM, zvM]
    all_goals grind
theorem spec_l11Cell (w : World) (ad : Option Addr) (m c : Nat) (hm : m ≤ 1000000000) (x : DCell) (hx : cellOk x) :
    Calls Try.prog 70 #[.slice ad m c, .agg #[.int .i64 x.kind, .int .i64 x.n, .string x.s, .int .i64 x.a.kind, .int .i64 x.a.n, .string x.a.s, .int .i64 x.b.kind, .int .i64 x.b.n, .string x.b.s]] w fun e w' => e = .returned (.bool (cellM m x)) ∧ Below w.heap.size w w' := by
  obtain ⟨kind, n, s, a, b⟩ := x
  obtain ⟨hk, hn, hs, ha1, ha2, ha3, hb⟩ := hx
  have ha : valOk a := ⟨ha1, ha2, ha3⟩
  rcases (show kind < 1 ∨ 6 < kind ∨ kind = 2 ∨ kind = 6 ∨ (1 ≤ kind ∧ kind ≤ 6 ∧ ¬ kind = 2 ∧ ¬ kind = 6) by omega) with hr | hr | hr | hr | ⟨r0, r1, h2, h6⟩
  · exact spec_l11Cell_lo w ad m c hm kind n s a b hk hn hs ha hb hr
  · exact spec_l11Cell_hi w ad m c hm kind n s a b hk hn hs ha hb hr
  · cases hva : valM m a
    · exact spec_l11Cell_a w ad m c hm kind n s a b hk hn hs ha hb (by omega) (by omega) hva
    · cases hvb : valM m b
      · exact spec_l11Cell_two2false w ad m c hm kind n s a b hk hn hs ha hb hr hva hvb
      · exact spec_l11Cell_two2true w ad m c hm kind n s a b hk hn hs ha hb hr hva hvb
  · cases hva : valM m a
    · exact spec_l11Cell_a w ad m c hm kind n s a b hk hn hs ha hb (by omega) (by omega) hva
    · cases hvb : valM m b
      · exact spec_l11Cell_two6false w ad m c hm kind n s a b hk hn hs ha hb hr hva hvb
      · exact spec_l11Cell_two6true w ad m c hm kind n s a b hk hn hs ha hb hr hva hvb
  · cases hva : valM m a
    · exact spec_l11Cell_a w ad m c hm kind n s a b hk hn hs ha hb r0 r1 hva
    · cases hz : zvM b
      · exact spec_l11Cell_none w ad m c hm kind n s a b hk hn hs ha hb r0 r1 h2 h6 hva hz
      · exact spec_l11Cell_one w ad m c hm kind n s a b hk hn hs ha hb r0 r1 h2 h6 hva hz
end Go.Proofs.Ythpphiplbaehdaa
