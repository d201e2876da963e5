import Derived.Test.YtngobmjdbjlkcaaTyM
import Derived.Test.YtngobmjdbjlkcaaDecB
import Derived.Test.YtngobmjdbjlkcaaBase
import Derived.Deep.RegionLaw
import Derived.Test.YtngobmjdbjlkcaaTyB
/- The text of a type: plain. -/
namespace Go.Proofs.Ytngobmjdbjlkcaa
set_option linter.unusedVariables false
/-- the text of a variable. -/
def varT (v : Int) : List UInt8 := if 25 < v then [39, 122] ++ numT v else [39, UInt8.ofNat (97 + v.toNat)]
/-- the text of the type at a place (n: how deep one may go). -/
def textT (xs : List TyI) : Nat → Nat → List UInt8
  | 0, _ => []
  | n + 1, k => match xs[k]? with
    | none => []
    | some x =>
      if x.name.toList.isEmpty then varT x.v
      else if x.ar = 0 then x.name.data.toList
      else if x.ar = 1 then [40] ++ textT xs n (k + 1) ++ [41, 32] ++ x.name.data.toList
      else if x.name.toList == [45, 62] || x.name.toList == [42] then [40] ++ textT xs n (k + 1) ++ [32] ++ x.name.data.toList ++ [32] ++ textT xs n (endM xs (k + 1)).toNat ++ [41]
      else [40] ++ textT xs n (k + 1) ++ [44, 32] ++ textT xs n (endM xs (k + 1)).toNat ++ [41, 32] ++ x.name.data.toList
/-- the answer of PrintTy. -/
def printTyM (xs : List TyI) : List UInt8 := if tyOkM xs then textT xs xs.length 0 else []
theorem textT_at (xs : List TyI) (n k : Nat) (h : k < xs.length) : textT xs (n + 1) k =
    if xs[k].name.toList.isEmpty then varT xs[k].v
    else if xs[k].ar = 0 then xs[k].name.data.toList
    else if xs[k].ar = 1 then [40] ++ textT xs n (k + 1) ++ [41, 32] ++ xs[k].name.data.toList
    else if xs[k].name.toList == [45, 62] || xs[k].name.toList == [42] then [40] ++ textT xs n (k + 1) ++ [32] ++ xs[k].name.data.toList ++ [32] ++ textT xs n (endM xs (k + 1)).toNat ++ [41]
    else [40] ++ textT xs n (k + 1) ++ [44, 32] ++ textT xs n (endM xs (k + 1)).toNat ++ [41, 32] ++ xs[k].name.data.toList := by
  rw [textT, List.getElem?_eq_getElem h]
theorem printTyM_bad {xs : List TyI} (h : tyOkM xs = false) : printTyM xs = [] := by unfold printTyM; rw [h]; rfl
theorem printTyM_ok {xs : List TyI} (h : tyOkM xs = true) : printTyM xs = textT xs xs.length 0 := by unfold printTyM; rw [if_pos h]
/-- of a type that is all there: its parts are. -/
theorem endM_first {xs : List TyI} {k : Nat} (h : k < xs.length) (he : endM xs k ≠ -1) (ha : 0 < xs[k].ar.toNat) : endM xs (k + 1) ≠ -1 := by
  intro e
  rw [endM_step xs k h] at he
  rw [endM_ends] at e
  exact he (endsM_neg xs (k + 1) 1 (by omega) _ (by omega))
end Go.Proofs.Ytngobmjdbjlkcaa

/- The text of a type: its parts, its length. -/
namespace Go.Proofs.Ytngobmjdbjlkcaa
set_option linter.unusedVariables false
theorem endM_bd (xs : List TyI) (k e : Nat) (h : endM xs k = e) : k < e ∧ e ≤ xs.length ∧ k < xs.length := by
  by_cases hk : k < xs.length
  · rw [endM_step xs k hk] at h
    rcases endsM_bd xs (k + 1) xs[k].ar.toNat hk with h' | ⟨n, h', h1, h2⟩ <;> omega
  · rw [endM_end xs k (by omega)] at h; omega
theorem endM_none (xs : List TyI) (k e : Nat) (hk : k < xs.length) (h : endM xs k = e) (ha : xs[k].ar = 0) : e = k + 1 := by
  rw [endM_step xs k hk, ha] at h
  have := endsM_zero xs (k + 1)
  simp only [Int.toNat_zero] at h
  omega
theorem endM_one (xs : List TyI) (k e : Nat) (hk : k < xs.length) (h : endM xs k = e) (ha : xs[k].ar = 1) : endM xs (k + 1) = e := by
  rw [endM_step xs k hk, ha] at h
  rw [endM_ends]; exact h
theorem endM_two (xs : List TyI) (k e : Nat) (hk : k < xs.length) (h : endM xs k = e) (ha : xs[k].ar = 2) : ∃ e1 : Nat, endM xs (k + 1) = e1 ∧ endM xs e1 = e := by
  rw [endM_step xs k hk, ha] at h
  have h2 : endsM xs (k + 1) 2 = e := h
  rcases endsM_bd xs (k + 1) 1 hk with h' | ⟨n, h', h1, hn⟩
  · have := endsM_neg xs (k + 1) 1 (by omega) 2 (by omega)
    omega
  · refine ⟨n, by rw [endM_ends]; exact h', ?_⟩
    rw [← endsM_succ xs (k + 1) 1 n h']; exact h2
theorem nameM_len {s : ByteArray} (h : nameM s = true) : s.size ≤ 12 := by
  unfold nameM wordM at h
  simp only [Bool.and_eq_true, decide_eq_true_eq] at h
  have : s.size = s.data.toList.length := rfl
  omega
theorem toList_len (s : ByteArray) : s.toList.length = s.size := by
  rw [ByteArray.toList_eq]; rfl
theorem itemM_len {x : TyI} (h : itemM x = true) : x.name.size ≤ 12 := by
  unfold itemM at h
  have hl := toList_len x.name
  split at h
  · rename_i he
    rw [List.isEmpty_iff] at he
    rw [he] at hl; simp at hl; omega
  · simp only [Bool.and_eq_true] at h
    have h := h.2
    split at h
    · rename_i he
      simp only [Bool.or_eq_true, beq_iff_eq] at he
      rcases he with he | he <;> (rw [he] at hl; simp at hl; omega)
    · split at h
      · rename_i he
        simp only [beq_iff_eq] at he
        rw [he] at hl; simp at hl; omega
      · simp only [Bool.and_eq_true] at h
        exact nameM_len h.1.1
theorem varT_len (v : Int) : (varT v).length ≤ 22 := by
  unfold varT
  split
  · have := numT_len v
    simp; omega
  · simp
theorem textT_len (xs : List TyI) (hit : ∀ x ∈ xs, itemM x = true) : ∀ (n k e : Nat), endM xs k = e → (textT xs n k).length ≤ 40 * (e - k) := by
  intro n
  induction n with
  | zero => intro k e h; simp [textT]
  | succ n ih =>
    intro k e h
    obtain ⟨h1, h2, hk⟩ := endM_bd xs k e h
    have hx := hit _ (List.getElem_mem hk)
    have hn := itemM_len hx
    have hn' : xs[k].name.data.toList.length ≤ 12 := hn
    obtain ⟨a0, a1⟩ := itemM_ar hx
    rw [textT_at xs n k hk]
    split
    · have := varT_len xs[k].v; omega
    · split
      · omega
      · split
        · rename_i ha
          have he := ih (k + 1) e (endM_one xs k e hk h ha)
          simp only [List.length_append, List.length_cons, List.length_nil]
          omega
        · have ha : xs[k].ar = 2 := by omega
          obtain ⟨e1, q1, q2⟩ := endM_two xs k e hk h ha
          have he := ih (k + 1) e1 q1
          obtain ⟨b1, b2, b3⟩ := endM_bd xs (k + 1) e1 q1
          obtain ⟨b4, b5, b6⟩ := endM_bd xs e1 e q2
          have he2 := ih e1 e q2
          have ht : (endM xs (k + 1)).toNat = e1 := by omega
          rw [ht]
          split
          · simp only [List.length_append, List.length_cons, List.length_nil]
            omega
          · simp only [List.length_append, List.length_cons, List.length_nil]
            omega
end Go.Proofs.Ytngobmjdbjlkcaa

/- The text of a variable, of both texts. -/
namespace Go.Proofs.Ytngobmjdbjlkcaa
set_option linter.unusedVariables false
set_option linter.unusedSimpArgs false
open Go.RowKit
theorem varT_big {v : Int} (h : 25 < v) : bs (varT v) = (⟨#[39, 122]⟩ : ByteArray) ++ bs (numT v) := by
  unfold varT; rw [if_pos h]; exact (str_app [39, 122] (numT v)).symm
theorem varT_low {v : Int} (h : ¬ 25 < v) : bs (varT v) = (⟨#[39]⟩ : ByteArray) ++ bs [UInt8.ofNat (97 + v.toNat)] := by
  unfold varT; rw [if_neg h]; exact (str_app [39] [UInt8.ofNat (97 + v.toNat)]).symm
theorem letV {v : Int} (h0 : 0 ≤ v) (h1 : v ≤ 25) : Value.int .u8 (97 + v) = byteV (UInt8.ofNat (97 + v.toNat)) := by
  unfold byteV
  congr 1
  have : (UInt8.ofNat (97 + v.toNat)).toNat = 97 + v.toNat := by rw [UInt8.toNat_ofNat']; omega
  omega
set_option maxRecDepth 100000 in
theorem spec_l04Var (w : World) (v : Int) (h0 : 0 ≤ v) (h1 : v ≤ 9999) : Calls Try.prog 160 #[.int .i64 v] w fun e w' => e = .returned (.string (bs (varT v))) ∧ Below w.heap.size w w' := by
  by_cases h : 25 < v
  · rw [varT_big h]
    have hl := numT_len v
    have hsz : (bs (numT v)).size ≤ 20 := by rw [bs_size]; exact hl
    go_enter Try.func160, Try.ntmps160
    go_wp2_with (first | (go_at_call 114; refine (spec_NumText _ _ (by omega) (by omega)).mono ?_; rintro e w1 ⟨rfl, hb1⟩))
    go_ret
    exact ⟨rfl, hb1⟩
  · rw [varT_low h]
    have hcv := run_str_one (97 + v) _ (letV h0 (by omega))
    have e2 : IntKind.i64.wrap (97 + v) = 97 + v := IntWalk.i64_in _ (by omega)
    have e3 : IntKind.u8.wrap (97 + v) = 97 + v := IntWalk.u8_in _ (by omega)
    have z2 : (bs [UInt8.ofNat (97 + v.toNat)]).size ≤ 1 := by rw [bs_size]; simp
    go_enter Try.func160, Try.ntmps160
    go_wp2_with fail
    all_goals
      go_ret
      exact ⟨rfl, (by repeat (first | with_reducible exact Below.refl _ _ | with_reducible assumption | with_reducible refine Below.setCell ?_ ?_ _ | with_reducible refine Below.alloc ?_ ?_ _ | with_reducible refine Below.drew ?_ | (with_reducible apply below_chain; with_reducible assumption) | exact Nat.le_refl _ | omega | (simp <;> omega)))⟩
set_option maxRecDepth 100000 in
theorem impl_varText (w : World) (v : Int) (h0 : 0 ≤ v) (h1 : v ≤ 9999) : Calls Try.prog 109 #[.int .i64 v] w fun e w' => e = .returned (.string (bs (varT v))) ∧ Below w.heap.size w w' := by
  by_cases h : 25 < v
  · rw [varT_big h]
    have hl := numT_len v
    have hsz : (bs (numT v)).size ≤ 20 := by rw [bs_size]; exact hl
    go_enter Try.func109, Try.ntmps109
    go_wp2_with (first | (go_at_call 141; refine (impl_NumText _ _ (by omega) (by omega)).mono ?_; rintro e w1 ⟨rfl, hb1⟩))
    go_ret
    exact ⟨rfl, hb1⟩
  · rw [varT_low h]
    have hcv := run_str_one (97 + v) _ (letV h0 (by omega))
    have e2 : IntKind.i64.wrap (97 + v) = 97 + v := IntWalk.i64_in _ (by omega)
    have e3 : IntKind.u8.wrap (97 + v) = 97 + v := IntWalk.u8_in _ (by omega)
    have z2 : (bs [UInt8.ofNat (97 + v.toNat)]).size ≤ 1 := by rw [bs_size]; simp
    go_enter Try.func109, Try.ntmps109
    go_wp2_with fail
    all_goals
      go_ret
      exact ⟨rfl, (by repeat (first | with_reducible exact Below.refl _ _ | with_reducible assumption | with_reducible refine Below.setCell ?_ ?_ _ | with_reducible refine Below.alloc ?_ ?_ _ | with_reducible refine Below.drew ?_ | (with_reducible apply below_chain; with_reducible assumption) | exact Nat.le_refl _ | omega | (simp <;> omega)))⟩
end Go.Proofs.Ytngobmjdbjlkcaa

/- The text of the type at a place, of both texts. -/
namespace Go.Proofs.Ytngobmjdbjlkcaa
set_option linter.unusedVariables false
set_option linter.unusedSimpArgs false
open Go.RowKit
theorem txt_one (t : List UInt8) (s : ByteArray) : bs ([40] ++ t ++ [41, 32] ++ s.data.toList) = (((⟨#[40]⟩ : ByteArray) ++ bs t) ++ (⟨#[41, 32]⟩ : ByteArray)) ++ s := by
  rw [← str_app, ← str_app, ← str_app, bs_of]; rfl
theorem txt_op (t u : List UInt8) (s : ByteArray) : bs ([40] ++ t ++ [32] ++ s.data.toList ++ [32] ++ u ++ [41]) = ((((((⟨#[40]⟩ : ByteArray) ++ bs t) ++ (⟨#[32]⟩ : ByteArray)) ++ s) ++ (⟨#[32]⟩ : ByteArray)) ++ bs u) ++ (⟨#[41]⟩ : ByteArray) := by
  rw [← str_app, ← str_app, ← str_app, ← str_app, ← str_app, ← str_app, bs_of]; rfl
theorem txt_two (t u : List UInt8) (s : ByteArray) : bs ([40] ++ t ++ [44, 32] ++ u ++ [41, 32] ++ s.data.toList) = (((((⟨#[40]⟩ : ByteArray) ++ bs t) ++ (⟨#[44, 32]⟩ : ByteArray)) ++ bs u) ++ (⟨#[41, 32]⟩ : ByteArray)) ++ s := by
  rw [← str_app, ← str_app, ← str_app, ← str_app, ← str_app, bs_of]; rfl
set_option maxRecDepth 100000 in
set_option maxHeartbeats 4000000 in
theorem impl_tyText : ∀ (n : Nat) (w : World) (h : Hp) (hs : Sub h w) (v : Value) (xs : List TyI) (hv : TyS h v xs) (hit : ∀ x ∈ xs, itemM x = true) (hl : xs.length ≤ 200) (k e : Nat) (hn : xs.length - k ≤ n) (he : endM xs k = e),
    Calls Try.prog 58 #[v, .int .i64 k] w fun r w' => r = .returned (.tuple #[.string (bs (textT xs n k)), .int .i64 e]) ∧ Below w.heap.size w w' := by
  intro n
  induction n with
  | zero => intro w h hs v xs hv hit hl k e hn he; have := endM_bd xs k e he; omega
  | succ n ih =>
    intro w h hs v xs hv hit hl k e hn he
    have hm := hv.mem
    have HV := Lib.hid hv
    have HT := Lib.hid hit
    have IH := Lib.hid ih
    obtain ⟨a, c, rfl, hc1, hc2, -⟩ := hv
    unfold maxLen at hc2
    obtain ⟨l1, l2, hlt⟩ := endM_bd xs k e he
    obtain ⟨bl, off, rfl, hcell⟩ := HV.out.cell hlt
    obtain ⟨c0, c1, c2⟩ := hcell k hlt w hs
    have hi := hit _ (List.getElem_mem hlt)
    have hx := hm _ (List.getElem_mem hlt)
    have hns := itemM_len hi
    obtain ⟨a0, a1⟩ := itemM_ar hi
    have hat := textT_at xs n k hlt
    have h0 := endM_none xs k e hlt he
    have h1 := endM_one xs k e hlt he
    have h2 := endM_two xs k e hlt he
    have hv0 : xs[k].name.toList.isEmpty = true → 0 ≤ xs[k].v ∧ xs[k].v ≤ 9999 ∧ xs[k].ar = 0 := by
      intro hE; unfold itemM at hi; rw [if_pos hE] at hi
      simp only [Bool.and_eq_true, decide_eq_true_eq, beq_iff_eq] at hi; omega
    clear hcell hit ih hm hi
    obtain ⟨x, hxe⟩ : ∃ x, x = xs[k] := ⟨_, rfl⟩
    rw [← hxe] at c0 c1 c2 hx hns a0 a1 hat h0 h1 h2 hv0
    clear hxe
    obtain ⟨xv, s, ar⟩ := x
    obtain ⟨hxv, hsz, hxa⟩ := hx
    unfold I64 at hxv hxa
    dsimp only at hxv hsz hxa c0 c1 c2 hns a0 a1 hat h0 h1 h2 hv0
    have HAt := Lib.hid hat
    clear hat
    have hsm : s.size ≤ 12 := hns
    cases hE : s.toList.isEmpty
    · rcases (show ar = 0 ∨ ar = 1 ∨ ar = 2 by omega) with rfl | rfl | rfl
      · have hT : bs (textT xs (n + 1) k) = s := by rw [HAt.out, hE, if_neg (by simp), if_pos rfl, bs_of]
        rw [hT, h0 rfl]
        clear h0 h1 h2 hv0 hT
        go_enter Try.func58, Try.ntmps58
        go_wp2
        go_ret2
        exact ⟨rfl, (by repeat (first | with_reducible exact Below.refl _ _ | with_reducible assumption | with_reducible refine Below.setCell ?_ ?_ _ | with_reducible refine Below.alloc ?_ ?_ _ | with_reducible refine Below.drew ?_ | (with_reducible apply below_chain; with_reducible assumption) | exact Nat.le_refl _ | omega | (simp <;> omega)))⟩
      · have he1 := h1 rfl
        clear h0 h2 hv0 h1
        have hT : bs (textT xs (n + 1) k) = _ := (congrArg bs (by rw [HAt.out, hE, if_neg (by simp), if_neg (by decide), if_pos rfl])).trans (txt_one (textT xs n (k + 1)) s)
        rw [hT]
        have hz := textT_len xs HT.out n (k + 1) e he1
        have hz1 : (bs (textT xs n (k + 1))).size ≤ 8000 := by rw [bs_size]; omega
        have K1 := Lib.hid (fun (w : World) (hs : Sub h w) => IH.out w h hs _ xs HV.out HT.out hl (k + 1) e (by omega) he1)
        clear hT hz
        go_enter Try.func58, Try.ntmps58
        go_wp2_with fail
        refine (K1.out _ (hs.alloc _)).mono ?_
        rintro r w1 ⟨rfl, hb1⟩
        obtain ⟨kc1, kf1⟩ := bcell hb1; have kz1 := hb1.size; (try simp at kz1); (first | (refine (fun (kw1_0 : w.heap.size  < w1.heap.size) => ?_) ?_; rotate_left; omega) | skip); (first | (refine (fun (kw1_1 : w.heap.size + 1 < w1.heap.size) => ?_) ?_; rotate_left; omega) | skip); (first | (refine (fun (kw1_2 : w.heap.size + 1 + 1 < w1.heap.size) => ?_) ?_; rotate_left; omega) | skip)
        go_wp2_with fail
        go_ret2
        exact ⟨rfl, (by repeat (first | with_reducible exact Below.refl _ _ | with_reducible assumption | with_reducible refine Below.setCell ?_ ?_ _ | with_reducible refine Below.alloc ?_ ?_ _ | with_reducible refine Below.drew ?_ | (with_reducible apply below_chain; with_reducible assumption) | exact Nat.le_refl _ | omega | (simp <;> omega)))⟩
      · obtain ⟨e1, q1, q2⟩ := h2 rfl
        clear h0 h2 hv0 h1
        have b1 := endM_bd xs (k + 1) e1 q1
        have b2 := endM_bd xs e1 e q2
        have ht1 : (endM xs (k + 1)).toNat = e1 := by omega
        have hz := textT_len xs HT.out n (k + 1) e1 q1
        have hz' := textT_len xs HT.out n e1 e q2
        have hz1 : (bs (textT xs n (k + 1))).size ≤ 8000 := by rw [bs_size]; omega
        have hz2 : (bs (textT xs n e1)).size ≤ 8000 := by rw [bs_size]; omega
        have K1 := Lib.hid (fun (w : World) (hs : Sub h w) => IH.out w h hs _ xs HV.out HT.out hl (k + 1) e1 (by omega) q1)
        have K2 := Lib.hid (fun (w : World) (hs : Sub h w) => IH.out w h hs _ xs HV.out HT.out hl e1 e (by omega) q2)
        cases hop : (s.toList == [45, 62] || s.toList == [42])
        · have hT : bs (textT xs (n + 1) k) = _ := (congrArg bs (by rw [HAt.out, hE, hop, if_neg (by simp), if_neg (by decide), if_neg (by decide), if_neg (by simp), ht1])).trans (txt_two (textT xs n (k + 1)) (textT xs n e1) s)
          rw [hT]
          obtain ⟨o1, o2⟩ : (s.toList == [45, 62]) = false ∧ (s.toList == [42]) = false := by simpa using hop
          clear hT hz hz' hop q1 q2 ht1
          go_enter Try.func58, Try.ntmps58
          go_wp2_with fail
          refine (K1.out _ (hs.alloc _)).mono ?_
          rintro r w1 ⟨rfl, hb1⟩
          obtain ⟨kc1, kf1⟩ := bcell hb1; have kz1 := hb1.size; (try simp at kz1); (first | (refine (fun (kw1_0 : w.heap.size  < w1.heap.size) => ?_) ?_; rotate_left; omega) | skip); (first | (refine (fun (kw1_1 : w.heap.size + 1 < w1.heap.size) => ?_) ?_; rotate_left; omega) | skip); (first | (refine (fun (kw1_2 : w.heap.size + 1 + 1 < w1.heap.size) => ?_) ?_; rotate_left; omega) | skip)
          have s1 := (hs.alloc _).below hb1
          go_wp2_with fail
          refine (K2.out _ s1).mono ?_
          rintro r w2 ⟨rfl, hb2⟩
          obtain ⟨kc2, kf2⟩ := bcell hb2; have kz2 := hb2.size; (try simp at kz2); (first | (refine (fun (kw2_0 : w.heap.size  < w2.heap.size) => ?_) ?_; rotate_left; omega) | skip); (first | (refine (fun (kw2_1 : w.heap.size + 1 < w2.heap.size) => ?_) ?_; rotate_left; omega) | skip); (first | (refine (fun (kw2_2 : w.heap.size + 1 + 1 < w2.heap.size) => ?_) ?_; rotate_left; omega) | skip)
          go_wp2_with fail
          go_ret2
          exact ⟨rfl, (by repeat (first | with_reducible exact Below.refl _ _ | with_reducible assumption | with_reducible refine Below.setCell ?_ ?_ _ | with_reducible refine Below.alloc ?_ ?_ _ | with_reducible refine Below.drew ?_ | (with_reducible apply below_chain; with_reducible assumption) | exact Nat.le_refl _ | omega | (simp <;> omega)))⟩
        · have hT : bs (textT xs (n + 1) k) = _ := (congrArg bs (by rw [HAt.out, hE, hop, if_neg (by simp), if_neg (by decide), if_neg (by decide), if_pos rfl, ht1])).trans (txt_op (textT xs n (k + 1)) (textT xs n e1) s)
          rw [hT]
          have ho := hop
          rw [Bool.or_eq_true] at ho
          clear hT hz hz' hop q1 q2 ht1
          go_enter Try.func58, Try.ntmps58
          go_wp2_with fail
          refine (K1.out _ (hs.alloc _)).mono ?_
          rintro r w1 ⟨rfl, hb1⟩
          obtain ⟨kc1, kf1⟩ := bcell hb1; have kz1 := hb1.size; (try simp at kz1); (first | (refine (fun (kw1_0 : w.heap.size  < w1.heap.size) => ?_) ?_; rotate_left; omega) | skip); (first | (refine (fun (kw1_1 : w.heap.size + 1 < w1.heap.size) => ?_) ?_; rotate_left; omega) | skip); (first | (refine (fun (kw1_2 : w.heap.size + 1 + 1 < w1.heap.size) => ?_) ?_; rotate_left; omega) | skip)
          have s1 := (hs.alloc _).below hb1
          go_wp2_with fail
          refine (K2.out _ s1).mono ?_
          rintro r w2 ⟨rfl, hb2⟩
          obtain ⟨kc2, kf2⟩ := bcell hb2; have kz2 := hb2.size; (try simp at kz2); (first | (refine (fun (kw2_0 : w.heap.size  < w2.heap.size) => ?_) ?_; rotate_left; omega) | skip); (first | (refine (fun (kw2_1 : w.heap.size + 1 < w2.heap.size) => ?_) ?_; rotate_left; omega) | skip); (first | (refine (fun (kw2_2 : w.heap.size + 1 + 1 < w2.heap.size) => ?_) ?_; rotate_left; omega) | skip)
          rcases ho with o1 | o1
          all_goals
            go_wp2_with fail
            all_goals
              go_ret2
              exact ⟨rfl, (by repeat (first | with_reducible exact Below.refl _ _ | with_reducible assumption | with_reducible refine Below.setCell ?_ ?_ _ | with_reducible refine Below.alloc ?_ ?_ _ | with_reducible refine Below.drew ?_ | (with_reducible apply below_chain; with_reducible assumption) | exact Nat.le_refl _ | omega | (simp <;> omega)))⟩
    · obtain ⟨v0, v1, rfl⟩ := hv0 hE
      have hT : bs (textT xs (n + 1) k) = bs (varT xv) := by rw [HAt.out, hE, if_pos rfl]
      rw [hT, h0 rfl]
      clear h0 h1 h2 hv0 hT
      go_enter Try.func58, Try.ntmps58
      go_wp2_with fail
      refine (impl_varText _ xv v0 v1).mono ?_
      rintro r w1 ⟨rfl, hb1⟩
      obtain ⟨kc1, kf1⟩ := bcell hb1; have kz1 := hb1.size; (try simp at kz1); (first | (refine (fun (kw1_0 : w.heap.size  < w1.heap.size) => ?_) ?_; rotate_left; omega) | skip); (first | (refine (fun (kw1_1 : w.heap.size + 1 < w1.heap.size) => ?_) ?_; rotate_left; omega) | skip); (first | (refine (fun (kw1_2 : w.heap.size + 1 + 1 < w1.heap.size) => ?_) ?_; rotate_left; omega) | skip)
      go_wp2_with fail
      go_ret2
      exact ⟨rfl, (by repeat (first | with_reducible exact Below.refl _ _ | with_reducible assumption | with_reducible refine Below.setCell ?_ ?_ _ | with_reducible refine Below.alloc ?_ ?_ _ | with_reducible refine Below.drew ?_ | (with_reducible apply below_chain; with_reducible assumption) | exact Nat.le_refl _ | omega | (simp <;> omega)))⟩
end Go.Proofs.Ytngobmjdbjlkcaa

/- The text of the type at a place: the reference's text; PrintTy of both. -/
namespace Go.Proofs.Ytngobmjdbjlkcaa
set_option linter.unusedVariables false
set_option linter.unusedSimpArgs false
open Go.RowKit
set_option maxRecDepth 100000 in
set_option maxHeartbeats 4000000 in
theorem spec_l04Ty : ∀ (n : Nat) (w : World) (h : Hp) (hs : Sub h w) (v : Value) (xs : List TyI) (hv : TyS h v xs) (hit : ∀ x ∈ xs, itemM x = true) (hl : xs.length ≤ 200) (k e : Nat) (hn : xs.length - k ≤ n) (he : endM xs k = e),
    Calls Try.prog 140 #[.agg #[v], .int .i64 k] w fun r w' => r = .returned (.string (bs (textT xs n k))) ∧ Below w.heap.size w w' := by
  intro n
  induction n with
  | zero => intro w h hs v xs hv hit hl k e hn he; have := endM_bd xs k e he; omega
  | succ n ih =>
    intro w h hs v xs hv hit hl k e hn he
    have hm := hv.mem
    have HV := Lib.hid hv
    have HT := Lib.hid hit
    have IH := Lib.hid ih
    obtain ⟨a, c, rfl, hc1, hc2, -⟩ := hv
    unfold maxLen at hc2
    obtain ⟨l1, l2, hlt⟩ := endM_bd xs k e he
    obtain ⟨bl, off, rfl, hcell⟩ := HV.out.cell hlt
    obtain ⟨c0, c1, c2⟩ := hcell k hlt (w.alloc (.cells #[.slice (some ⟨bl, off, none⟩) xs.length c] 25)) (hs.alloc _)
    have hi := hit _ (List.getElem_mem hlt)
    have hx := hm _ (List.getElem_mem hlt)
    have hns := itemM_len hi
    obtain ⟨a0, a1⟩ := itemM_ar hi
    have hat := textT_at xs n k hlt
    have h0 := endM_none xs k e hlt he
    have h1 := endM_one xs k e hlt he
    have h2 := endM_two xs k e hlt he
    have hv0 : xs[k].name.toList.isEmpty = true → 0 ≤ xs[k].v ∧ xs[k].v ≤ 9999 ∧ xs[k].ar = 0 := by
      intro hE; unfold itemM at hi; rw [if_pos hE] at hi
      simp only [Bool.and_eq_true, decide_eq_true_eq, beq_iff_eq] at hi; omega
    clear hcell hit ih hm hi
    obtain ⟨x, hxe⟩ : ∃ x, x = xs[k] := ⟨_, rfl⟩
    rw [← hxe] at c0 c1 c2 hx hns a0 a1 hat h0 h1 h2 hv0
    clear hxe
    obtain ⟨xv, s, ar⟩ := x
    obtain ⟨hxv, hsz, hxa⟩ := hx
    unfold I64 at hxv hxa
    dsimp only at hxv hsz hxa c0 c1 c2 hns a0 a1 hat h0 h1 h2 hv0
    have HAt := Lib.hid hat
    clear hat
    have hsm : s.size ≤ 12 := hns
    cases hE : s.toList.isEmpty
    · rcases (show ar = 0 ∨ ar = 1 ∨ ar = 2 by omega) with rfl | rfl | rfl
      · have hT : bs (textT xs (n + 1) k) = s := by rw [HAt.out, hE, if_neg (by simp), if_pos rfl, bs_of]
        rw [hT]
        clear h0 h1 h2 hv0 hT
        go_enter Try.func140, Try.ntmps140
        go_wp2
        go_ret
        exact ⟨rfl, (by repeat (first | with_reducible exact Below.refl _ _ | with_reducible assumption | with_reducible refine Below.setCell ?_ ?_ _ | with_reducible refine Below.alloc ?_ ?_ _ | with_reducible refine Below.drew ?_ | (with_reducible apply below_chain; with_reducible assumption) | exact Nat.le_refl _ | omega | (simp <;> omega)))⟩
      · have he1 := h1 rfl
        clear h0 h2 hv0 h1
        have hT : bs (textT xs (n + 1) k) = _ := (congrArg bs (by rw [HAt.out, hE, if_neg (by simp), if_neg (by decide), if_pos rfl])).trans (txt_one (textT xs n (k + 1)) s)
        rw [hT]
        have hz := textT_len xs HT.out n (k + 1) e he1
        have hz1 : (bs (textT xs n (k + 1))).size ≤ 8000 := by rw [bs_size]; omega
        have K1 := Lib.hid (fun (w : World) (hs : Sub h w) => IH.out w h hs _ xs HV.out HT.out hl (k + 1) e (by omega) he1)
        clear hT hz
        go_enter Try.func140, Try.ntmps140
        go_wp2_with fail
        refine (K1.out _ ((hs.alloc _).alloc _)).mono ?_
        rintro r w1 ⟨rfl, hb1⟩
        obtain ⟨kc1, kf1⟩ := bcell hb1; have kz1 := hb1.size; (try simp at kz1); (first | (refine (fun (kw1_0 : w.heap.size  < w1.heap.size) => ?_) ?_; rotate_left; omega) | skip); (first | (refine (fun (kw1_1 : w.heap.size + 1 < w1.heap.size) => ?_) ?_; rotate_left; omega) | skip); (first | (refine (fun (kw1_2 : w.heap.size + 1 + 1 < w1.heap.size) => ?_) ?_; rotate_left; omega) | skip)
        go_wp2_with fail
        go_ret
        exact ⟨rfl, (by repeat (first | with_reducible exact Below.refl _ _ | with_reducible assumption | with_reducible refine Below.setCell ?_ ?_ _ | with_reducible refine Below.alloc ?_ ?_ _ | with_reducible refine Below.drew ?_ | (with_reducible apply below_chain; with_reducible assumption) | exact Nat.le_refl _ | omega | (simp <;> omega)))⟩
      · obtain ⟨e1, q1, q2⟩ := h2 rfl
        clear h0 h2 hv0 h1
        have b1 := endM_bd xs (k + 1) e1 q1
        have b2 := endM_bd xs e1 e q2
        have ht1 : (endM xs (k + 1)).toNat = e1 := by omega
        have hz := textT_len xs HT.out n (k + 1) e1 q1
        have hz' := textT_len xs HT.out n e1 e q2
        have hz1 : (bs (textT xs n (k + 1))).size ≤ 8000 := by rw [bs_size]; omega
        have hz2 : (bs (textT xs n e1)).size ≤ 8000 := by rw [bs_size]; omega
        have K1 := Lib.hid (fun (w : World) (hs : Sub h w) => IH.out w h hs _ xs HV.out HT.out hl (k + 1) e1 (by omega) q1)
        have KE := Lib.hid (fun (w : World) (hs : Sub h w) => spec_l04End xs.length w h hs _ xs HV.out (items_arO (List.all_eq_true.2 HT.out)) (by omega) (k + 1) (by omega) (by omega))
        have Q1 := Lib.hid q1
        have ew : IntKind.i64.wrap ((k : Int) + 1) = (k : Int) + 1 := IntWalk.i64_in _ (by omega)
        have K2 := Lib.hid (fun (w : World) (hs : Sub h w) => IH.out w h hs _ xs HV.out HT.out hl e1 e (by omega) q2)
        cases hop : (s.toList == [45, 62] || s.toList == [42])
        · have hT : bs (textT xs (n + 1) k) = _ := (congrArg bs (by rw [HAt.out, hE, hop, if_neg (by simp), if_neg (by decide), if_neg (by decide), if_neg (by simp), ht1])).trans (txt_two (textT xs n (k + 1)) (textT xs n e1) s)
          rw [hT]
          obtain ⟨o1, o2⟩ : (s.toList == [45, 62]) = false ∧ (s.toList == [42]) = false := by simpa using hop
          clear hT hz hz' hop q1 q2 ht1
          go_enter Try.func140, Try.ntmps140
          go_wp2_with fail
          refine (K1.out _ ((hs.alloc _).alloc _)).mono ?_
          rintro r w1 ⟨rfl, hb1⟩
          obtain ⟨kc1, kf1⟩ := bcell hb1; have kz1 := hb1.size; (try simp at kz1); (first | (refine (fun (kw1_0 : w.heap.size  < w1.heap.size) => ?_) ?_; rotate_left; omega) | skip); (first | (refine (fun (kw1_1 : w.heap.size + 1 < w1.heap.size) => ?_) ?_; rotate_left; omega) | skip); (first | (refine (fun (kw1_2 : w.heap.size + 1 + 1 < w1.heap.size) => ?_) ?_; rotate_left; omega) | skip)
          have s1 := ((hs.alloc _).alloc _).below hb1
          go_wp2_with fail
          (first | go_region_law (first | (refine step_guard rfl ?_; go_simp; go_at_call 102; refine (KE.out _ (by first | with_reducible exact s1.drew | with_reducible exact s1)).mono ?_; rw [Q1.out]; rintro r w2 ⟨rfl, hb2⟩; replace hb2 := below_undrew hb2; have s2 := s1.below hb2; obtain ⟨kc2, kf2⟩ := bcell hb2; have kz2 := hb2.size; (try simp at kz2); (first | (refine (fun (kw2_0 : w.heap.size  < w2.heap.size) => ?_) ?_; rotate_left; omega) | skip); (first | (refine (fun (kw2_1 : w.heap.size + 1 < w2.heap.size) => ?_) ?_; rotate_left; omega) | skip); (first | (refine (fun (kw2_2 : w.heap.size + 1 + 1 < w2.heap.size) => ?_) ?_; rotate_left; omega) | skip); dsimp only) | (refine step_guard rfl ?_; go_simp; go_at_call 140; refine (K2.out _ (by first | with_reducible exact s2 | with_reducible exact s2.drew)).mono ?_; rintro r w3 ⟨rfl, hb3⟩; obtain ⟨kc3, kf3⟩ := bcell hb3; have kz3 := hb3.size; (try simp at kz3); (first | (refine (fun (kw3_0 : w.heap.size  < w3.heap.size) => ?_) ?_; rotate_left; omega) | skip); (first | (refine (fun (kw3_1 : w.heap.size + 1 < w3.heap.size) => ?_) ?_; rotate_left; omega) | skip); (first | (refine (fun (kw3_2 : w.heap.size + 1 + 1 < w3.heap.size) => ?_) ?_; rotate_left; omega) | skip); dsimp only)) | fail)
          all_goals
            go_wp2_with fail
            go_ret
            exact ⟨rfl, (by repeat (first | with_reducible exact Below.refl _ _ | with_reducible assumption | with_reducible refine Below.setCell ?_ ?_ _ | with_reducible refine Below.alloc ?_ ?_ _ | with_reducible refine Below.drew ?_ | (with_reducible apply below_chain; with_reducible assumption) | exact Nat.le_refl _ | omega | (simp <;> omega)))⟩
        · have hT : bs (textT xs (n + 1) k) = _ := (congrArg bs (by rw [HAt.out, hE, hop, if_neg (by simp), if_neg (by decide), if_neg (by decide), if_pos rfl, ht1])).trans (txt_op (textT xs n (k + 1)) (textT xs n e1) s)
          rw [hT]
          have ho := hop
          rw [Bool.or_eq_true] at ho
          clear hT hz hz' hop q1 q2 ht1
          go_enter Try.func140, Try.ntmps140
          go_wp2_with fail
          refine (K1.out _ ((hs.alloc _).alloc _)).mono ?_
          rintro r w1 ⟨rfl, hb1⟩
          obtain ⟨kc1, kf1⟩ := bcell hb1; have kz1 := hb1.size; (try simp at kz1); (first | (refine (fun (kw1_0 : w.heap.size  < w1.heap.size) => ?_) ?_; rotate_left; omega) | skip); (first | (refine (fun (kw1_1 : w.heap.size + 1 < w1.heap.size) => ?_) ?_; rotate_left; omega) | skip); (first | (refine (fun (kw1_2 : w.heap.size + 1 + 1 < w1.heap.size) => ?_) ?_; rotate_left; omega) | skip)
          have s1 := ((hs.alloc _).alloc _).below hb1
          go_wp2_with fail
          (first | go_region_law (first | (refine step_guard rfl ?_; go_simp; go_at_call 102; refine (KE.out _ (by first | with_reducible exact s1.drew | with_reducible exact s1)).mono ?_; rw [Q1.out]; rintro r w2 ⟨rfl, hb2⟩; replace hb2 := below_undrew hb2; have s2 := s1.below hb2; obtain ⟨kc2, kf2⟩ := bcell hb2; have kz2 := hb2.size; (try simp at kz2); (first | (refine (fun (kw2_0 : w.heap.size  < w2.heap.size) => ?_) ?_; rotate_left; omega) | skip); (first | (refine (fun (kw2_1 : w.heap.size + 1 < w2.heap.size) => ?_) ?_; rotate_left; omega) | skip); (first | (refine (fun (kw2_2 : w.heap.size + 1 + 1 < w2.heap.size) => ?_) ?_; rotate_left; omega) | skip); dsimp only) | (refine step_guard rfl ?_; go_simp; go_at_call 140; refine (K2.out _ (by first | with_reducible exact s2 | with_reducible exact s2.drew)).mono ?_; rintro r w3 ⟨rfl, hb3⟩; obtain ⟨kc3, kf3⟩ := bcell hb3; have kz3 := hb3.size; (try simp at kz3); (first | (refine (fun (kw3_0 : w.heap.size  < w3.heap.size) => ?_) ?_; rotate_left; omega) | skip); (first | (refine (fun (kw3_1 : w.heap.size + 1 < w3.heap.size) => ?_) ?_; rotate_left; omega) | skip); (first | (refine (fun (kw3_2 : w.heap.size + 1 + 1 < w3.heap.size) => ?_) ?_; rotate_left; omega) | skip); dsimp only)) | fail)
          all_goals
            rcases ho with o1 | o1
            all_goals
              go_wp2_with fail
              all_goals
                go_ret
                exact ⟨rfl, (by repeat (first | with_reducible exact Below.refl _ _ | with_reducible assumption | with_reducible refine Below.setCell ?_ ?_ _ | with_reducible refine Below.alloc ?_ ?_ _ | with_reducible refine Below.drew ?_ | (with_reducible apply below_chain; with_reducible assumption) | exact Nat.le_refl _ | omega | (simp <;> omega)))⟩
    · obtain ⟨v0, v1, rfl⟩ := hv0 hE
      have hT : bs (textT xs (n + 1) k) = bs (varT xv) := by rw [HAt.out, hE, if_pos rfl]
      rw [hT]
      clear h0 h1 h2 hv0 hT
      go_enter Try.func140, Try.ntmps140
      go_wp2_with fail
      refine (spec_l04Var _ xv v0 v1).mono ?_
      rintro r w1 ⟨rfl, hb1⟩
      obtain ⟨kc1, kf1⟩ := bcell hb1; have kz1 := hb1.size; (try simp at kz1); (first | (refine (fun (kw1_0 : w.heap.size  < w1.heap.size) => ?_) ?_; rotate_left; omega) | skip); (first | (refine (fun (kw1_1 : w.heap.size + 1 < w1.heap.size) => ?_) ?_; rotate_left; omega) | skip); (first | (refine (fun (kw1_2 : w.heap.size + 1 + 1 < w1.heap.size) => ?_) ?_; rotate_left; omega) | skip)
      go_wp2_with fail
      go_ret
      exact ⟨rfl, (by repeat (first | with_reducible exact Below.refl _ _ | with_reducible assumption | with_reducible refine Below.setCell ?_ ?_ _ | with_reducible refine Below.alloc ?_ ?_ _ | with_reducible refine Below.drew ?_ | (with_reducible apply below_chain; with_reducible assumption) | exact Nat.le_refl _ | omega | (simp <;> omega)))⟩
theorem impl_PrintTy (w : World) (h : Hp) (hs : Sub h w) (v : Value) (xs : List TyI) (hv : TyS h v xs) (hl : xs.length ≤ 1000000000) :
    Calls Try.prog 14 #[.agg #[v]] w fun e w' => e = .returned (.string (bs (printTyM xs))) ∧ Below w.heap.size w w' := by
  have HV := Lib.hid hv
  obtain ⟨a, c, rfl, hc1, hc2, -⟩ := hv
  have KO := Lib.hid (fun (w : World) (hs : Sub h w) => impl_TyOk w h hs _ xs HV.out hl)
  cases hb : tyOkM xs
  · rw [printTyM_bad hb]
    have HB := Lib.hid hb
    clear hb
    go_enter Try.func14, Try.ntmps14
    go_wp2_with fail
    refine (KO.out _ (hs.alloc _)).mono ?_
    rw [HB.out]
    rintro e w1 ⟨rfl, hb1⟩
    go_wp2_with fail
    go_ret
    exact ⟨rfl, (by repeat (first | with_reducible exact Below.refl _ _ | with_reducible assumption | with_reducible refine Below.setCell ?_ ?_ _ | with_reducible refine Below.alloc ?_ ?_ _ | with_reducible refine Below.drew ?_ | (with_reducible apply below_chain; with_reducible assumption) | exact Nat.le_refl _ | omega | (simp <;> omega)))⟩
  · rw [printTyM_ok hb]
    have ⟨hall, hend, h200⟩ : (∀ x ∈ xs, itemM x = true) ∧ endM xs 0 = (xs.length : Nat) ∧ xs.length ≤ 200 := by
      unfold tyOkM tyItemsM at hb
      simp only [Bool.and_eq_true, decide_eq_true_eq, List.all_eq_true] at hb
      exact ⟨hb.2.1, hb.2.2, hb.1⟩
    have KT := Lib.hid (fun (w : World) (hs : Sub h w) => impl_tyText xs.length w h hs _ xs HV.out hall h200 0 xs.length (by omega) hend)
    have HB := Lib.hid hb
    clear hb hall hend
    go_enter Try.func14, Try.ntmps14
    go_wp2_with fail
    refine (KO.out _ (hs.alloc _)).mono ?_
    rw [HB.out]
    rintro e w1 ⟨rfl, hb1⟩
    obtain ⟨kc1, kf1⟩ := bcell hb1; have kz1 := hb1.size; (try simp at kz1); (first | (refine (fun (kw1_0 : w.heap.size  < w1.heap.size) => ?_) ?_; rotate_left; omega) | skip); (first | (refine (fun (kw1_1 : w.heap.size + 1 < w1.heap.size) => ?_) ?_; rotate_left; omega) | skip); (first | (refine (fun (kw1_2 : w.heap.size + 1 + 1 < w1.heap.size) => ?_) ?_; rotate_left; omega) | skip)
    have s1 := (hs.alloc _).below hb1
    go_wp2_with fail
    refine (KT.out _ s1).mono ?_
    rintro e w2 ⟨rfl, hb2⟩
    go_wp2_with fail
    go_ret
    exact ⟨rfl, (by repeat (first | with_reducible exact Below.refl _ _ | with_reducible assumption | with_reducible refine Below.setCell ?_ ?_ _ | with_reducible refine Below.alloc ?_ ?_ _ | with_reducible refine Below.drew ?_ | (with_reducible apply below_chain; with_reducible assumption) | exact Nat.le_refl _ | omega | (simp <;> omega)))⟩
theorem spec_PrintTy (w : World) (h : Hp) (hs : Sub h w) (v : Value) (xs : List TyI) (hv : TyS h v xs) (hl : xs.length ≤ 1000000000) :
    Calls Try.prog 108 #[.agg #[v]] w fun e w' => e = .returned (.string (bs (printTyM xs))) ∧ Below w.heap.size w w' := by
  have HV := Lib.hid hv
  obtain ⟨a, c, rfl, hc1, hc2, -⟩ := hv
  have KO := Lib.hid (fun (w : World) (hs : Sub h w) => spec_TyOk w h hs _ xs HV.out hl)
  cases hb : tyOkM xs
  · rw [printTyM_bad hb]
    have HB := Lib.hid hb
    clear hb
    go_enter Try.func108, Try.ntmps108
    go_wp2_with fail
    refine (KO.out _ (by repeat (first | exact hs | refine Sub.alloc ?_ _))).mono ?_
    rw [HB.out]
    rintro e w1 ⟨rfl, hb1⟩
    go_wp2_with fail
    go_ret
    exact ⟨rfl, (by repeat (first | with_reducible exact Below.refl _ _ | with_reducible assumption | with_reducible refine Below.setCell ?_ ?_ _ | with_reducible refine Below.alloc ?_ ?_ _ | with_reducible refine Below.drew ?_ | (with_reducible apply below_chain; with_reducible assumption) | exact Nat.le_refl _ | omega | (simp <;> omega)))⟩
  · rw [printTyM_ok hb]
    have ⟨hall, hend, h200⟩ : (∀ x ∈ xs, itemM x = true) ∧ endM xs 0 = (xs.length : Nat) ∧ xs.length ≤ 200 := by
      unfold tyOkM tyItemsM at hb
      simp only [Bool.and_eq_true, decide_eq_true_eq, List.all_eq_true] at hb
      exact ⟨hb.2.1, hb.2.2, hb.1⟩
    have KT := Lib.hid (fun (w : World) (hs : Sub h w) => spec_l04Ty xs.length w h hs _ xs HV.out hall h200 0 xs.length (by omega) hend)
    have HB := Lib.hid hb
    clear hb hall hend
    go_enter Try.func108, Try.ntmps108
    go_wp2_with fail
    refine (KO.out _ (by repeat (first | exact hs | refine Sub.alloc ?_ _))).mono ?_
    rw [HB.out]
    rintro e w1 ⟨rfl, hb1⟩
    obtain ⟨kc1, kf1⟩ := bcell hb1; have kz1 := hb1.size; (try simp at kz1); (first | (refine (fun (kw1_0 : w.heap.size  < w1.heap.size) => ?_) ?_; rotate_left; omega) | skip); (first | (refine (fun (kw1_1 : w.heap.size + 1 < w1.heap.size) => ?_) ?_; rotate_left; omega) | skip); (first | (refine (fun (kw1_2 : w.heap.size + 1 + 1 < w1.heap.size) => ?_) ?_; rotate_left; omega) | skip)
    have s1 : Sub h w1 := Sub.below (by repeat (first | exact hs | refine Sub.alloc ?_ _)) hb1
    go_wp2_with fail
    refine (KT.out _ s1).mono ?_
    rintro e w2 ⟨rfl, hb2⟩
    go_wp2_with fail
    go_ret
    exact ⟨rfl, (by repeat (first | with_reducible exact Below.refl _ _ | with_reducible assumption | with_reducible refine Below.setCell ?_ ?_ _ | with_reducible refine Below.alloc ?_ ?_ _ | with_reducible refine Below.drew ?_ | (with_reducible apply below_chain; with_reducible assumption) | exact Nat.le_refl _ | omega | (simp <;> omega)))⟩
end Go.Proofs.Ytngobmjdbjlkcaa
