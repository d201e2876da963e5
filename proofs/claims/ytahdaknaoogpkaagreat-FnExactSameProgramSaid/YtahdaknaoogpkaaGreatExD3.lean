import Derived.Test.YtahdaknaoogpkaaGreatExD2
/- The text of a right expression determines it, but for the places: plain. -/
namespace Go.Proofs.YtahdaknaoogpkaaGreat
set_option linter.unusedVariables false
set_option linter.unusedSimpArgs false
open Arb
mutual
def er : ET → ET
  | .mk a l => .mk ⟨a.kind, 0, a.n, a.s, a.pats⟩ (erL l)
def erL : List ET → List ET
  | [] => []
  | t :: l => er t :: erL l
end
theorem erL_map (l : List ET) : erL l = l.map er := by
  induction l with
  | nil => rfl
  | cons t l ih => rw [erL, ih]; rfl
theorem er_mk (a : EI) (l : List ET) : er (.mk a l) = .mk ⟨a.kind, 0, a.n, a.s, a.pats⟩ (l.map er) := by rw [er, erL_map]
/-! ### the decoder -/
def p2 (b : UInt8) : Bool := worB b || b == 91 || b == 93
def wd2 (s : List UInt8) : List UInt8 := s.takeWhile p2
def af2 (s : List UInt8) : List UInt8 := s.dropWhile p2
def pc (s : List UInt8) : Bool := (s.head? == some 40) && !(wd2 s.tail).isEmpty && ((af2 s.tail).head? == some 41)
def cls (s : List UInt8) : Nat :=
  if s.head? = some 41 then 12
  else if s.head? = some 33 then 17
  else if wd s = [108, 101, 116] then (if wd (af s).tail = [114, 101, 99] then 8 else 7)
  else if wd s = [102, 117, 110] then 5
  else if wd s = [105, 102] then 9
  else if wd s = [109, 97, 116, 99, 104] then 13
  else if wd s = [114, 97, 105, 115, 101] then 14
  else if wd s = [116, 114, 121] then 15
  else if wd s = [114, 101, 102] then 16
  else if pc s = true then 6
  else 0
def mkE (k : Int) (n : Int) (s : List UInt8) (l : List ET) : ET := .mk ⟨k, 0, n, bs s, []⟩ l
open Classical in
noncomputable def decS (s : List UInt8) : Option (ET × List UInt8) := if h : ∃ p : List UInt8 × List UInt8, s = quoL p.1 ++ p.2 then some (mkE 2 0 h.choose.1 [], h.choose.2) else none
theorem decS_quo (t r : List UInt8) : decS (quoL t ++ r) = some (mkE 2 0 t [], r) := by
  have h : ∃ p : List UInt8 × List UInt8, quoL t ++ r = quoL p.1 ++ p.2 := ⟨(t, r), rfl⟩
  unfold decS
  rw [dif_pos h]
  obtain ⟨e1, e2⟩ := quoL_pre h.choose_spec
  rw [← e1, ← e2]
def wordE (w : List UInt8) : ET := if wk w = 0 then mkE 1 (dval w : Int) [] [] else if wk w = 1 then mkE 3 0 w [] else mkE 4 0 w []
def decA (dE : List UInt8 → Option (ET × List UInt8)) : Nat → List UInt8 → Option (List MPat × List ET × List UInt8)
  | 0, _ => none
  | m + 1, s => (decP 1000 s).bind fun q => (dE (q.2.drop 4)).bind fun p =>
    if p.2.tail.head? = some 124 then (decA dE m (p.2.drop 3)).bind fun z => some (⟨Arb.lay PI.node 0 q.1⟩ :: z.1, p.1 :: z.2.1, z.2.2)
    else some ([⟨Arb.lay PI.node 0 q.1⟩], [p.1], p.2)
noncomputable def decG (dE : List UInt8 → Option (ET × List UInt8)) (q : ET × List UInt8) : Option (ET × List UInt8) :=
  if q.2.head? = some 44 then (dE (q.2.drop 2)).bind fun p => some (mkE 11 0 [] [q.1, p.1], p.2.tail)
  else if q.2.head? = some 59 then (dE (q.2.drop 2)).bind fun p => some (mkE 19 0 [] [q.1, p.1], p.2.tail)
  else
    let o := q.2.tail.takeWhile fun b => b != 32
    if o = [58, 58] then (dE (q.2.drop 4)).bind fun p => some (mkE 4 0 [58, 58] [mkE 11 0 [] [q.1, p.1]], p.2.tail)
    else if o = [58, 61] then (dE (q.2.drop 4)).bind fun p => some (mkE 18 0 [] [q.1, p.1], p.2.tail)
    else if primL.contains o = true then (dE (q.2.drop (o.length + 2))).bind fun p => some (mkE 10 0 o [q.1, p.1], p.2.tail)
    else (dE q.2.tail).bind fun p => if q.1.a.kind = 4 ∧ q.1.kids.length = 0 then some (.mk ⟨4, 0, 0, q.1.a.s, []⟩ [p.1], p.2.tail) else some (mkE 6 0 [] [q.1, p.1], p.2.tail)
noncomputable def decE : Nat → List UInt8 → Option (ET × List UInt8)
  | 0, _ => none
  | n + 1, s =>
    if s.head? = some 34 then decS s
    else if s.head? = some 91 then some (mkE 4 0 [91, 93] [], s.tail.tail)
    else if s.head? = some 40 then
      if cls s.tail = 12 then some (mkE 12 0 [] [], s.tail.tail)
      else if cls s.tail = 17 then (decE n (s.tail.drop 2)).bind fun q => some (mkE 17 0 [] [q.1], q.2.tail)
      else if cls s.tail = 8 then (decE n ((af (af (af (af s.tail).tail).tail).tail).drop 3)).bind fun q => (decE n (q.2.drop 4)).bind fun p => some (mkE 8 0 (wd (af (af s.tail).tail).tail) [mkE 5 0 (wd (af (af (af s.tail).tail).tail).tail) [q.1], p.1], p.2.tail)
      else if cls s.tail = 7 then (decE n ((af (af s.tail).tail).drop 3)).bind fun q => (decE n (q.2.drop 4)).bind fun p => some (mkE 7 0 (wd (af s.tail).tail) [q.1, p.1], p.2.tail)
      else if cls s.tail = 5 then (decE n ((af (af s.tail).tail).drop 4)).bind fun q => some (mkE 5 0 (wd (af s.tail).tail) [q.1], q.2.tail)
      else if cls s.tail = 9 then (decE n (af s.tail).tail).bind fun q => (decE n (q.2.drop 6)).bind fun p => (decE n (p.2.drop 6)).bind fun z => some (mkE 9 0 [] [q.1, p.1, z.1], z.2.tail)
      else if cls s.tail = 13 then (decE n (af s.tail).tail).bind fun q => (decA (decE n) n (q.2.drop 6)).bind fun z => some (.mk ⟨13, 0, 0, bs [], z.1⟩ (q.1 :: z.2.1), z.2.2.drop 5)
      else if cls s.tail = 14 then (decE n (af s.tail).tail).bind fun q => some (mkE 14 0 [] [q.1], q.2.tail)
      else if cls s.tail = 15 then (decE n (af s.tail).tail).bind fun q => (decE n ((af (q.2.drop 6)).drop 4)).bind fun p => some (mkE 15 0 (wd (q.2.drop 6)) [q.1, p.1], p.2.drop 5)
      else if cls s.tail = 16 then (decE n (af s.tail).tail).bind fun q => some (mkE 16 0 [] [q.1], q.2.tail)
      else if cls s.tail = 6 then (decE n ((af2 s.tail.tail).drop 2)).bind fun p => some (mkE 6 0 [] [mkE 4 0 (wd2 s.tail.tail) [], p.1], p.2.tail)
      else (decE n s.tail).bind (decG (decE n))
    else some (wordE (wd s), af s)
theorem decE_open (n : Nat) (s : List UInt8) : decE (n + 1) (40 :: s) =
      if cls s = 12 then some (mkE 12 0 [] [], s.tail)
      else if cls s = 17 then (decE n (s.drop 2)).bind fun q => some (mkE 17 0 [] [q.1], q.2.tail)
      else if cls s = 8 then (decE n ((af (af (af (af s).tail).tail).tail).drop 3)).bind fun q => (decE n (q.2.drop 4)).bind fun p => some (mkE 8 0 (wd (af (af s).tail).tail) [mkE 5 0 (wd (af (af (af s).tail).tail).tail) [q.1], p.1], p.2.tail)
      else if cls s = 7 then (decE n ((af (af s).tail).drop 3)).bind fun q => (decE n (q.2.drop 4)).bind fun p => some (mkE 7 0 (wd (af s).tail) [q.1, p.1], p.2.tail)
      else if cls s = 5 then (decE n ((af (af s).tail).drop 4)).bind fun q => some (mkE 5 0 (wd (af s).tail) [q.1], q.2.tail)
      else if cls s = 9 then (decE n (af s).tail).bind fun q => (decE n (q.2.drop 6)).bind fun p => (decE n (p.2.drop 6)).bind fun z => some (mkE 9 0 [] [q.1, p.1, z.1], z.2.tail)
      else if cls s = 13 then (decE n (af s).tail).bind fun q => (decA (decE n) n (q.2.drop 6)).bind fun z => some (.mk ⟨13, 0, 0, bs [], z.1⟩ (q.1 :: z.2.1), z.2.2.drop 5)
      else if cls s = 14 then (decE n (af s).tail).bind fun q => some (mkE 14 0 [] [q.1], q.2.tail)
      else if cls s = 15 then (decE n (af s).tail).bind fun q => (decE n ((af (q.2.drop 6)).drop 4)).bind fun p => some (mkE 15 0 (wd (q.2.drop 6)) [q.1, p.1], p.2.drop 5)
      else if cls s = 16 then (decE n (af s).tail).bind fun q => some (mkE 16 0 [] [q.1], q.2.tail)
      else if cls s = 6 then (decE n ((af2 s.tail).drop 2)).bind fun p => some (mkE 6 0 [] [mkE 4 0 (wd2 s.tail) [], p.1], p.2.tail)
      else (decE n s).bind (decG (decE n)) := by
  rw [decE, List.head?_cons, if_neg (by simp), if_neg (by simp), if_pos rfl, List.tail_cons]
theorem decE_word {w : List UInt8} (hw : allWor w = true) {c : UInt8} {t : List UInt8} (e : w = c :: t) (h1 : c ≠ 34) (h2 : c ≠ 91) (h4 : c ≠ 40) {n : Nat} {r : List UInt8} (hr : stopB r) : decE (n + 1) (w ++ r) = some (wordE w, r) := by
  have hd : (w ++ r).head? = some c := by rw [e]; rfl
  rw [decE, hd, if_neg (by simpa using h1), if_neg (by simpa using h2), if_neg (by simpa using h4), wd_app hw hr, af_app hw hr]
end Go.Proofs.YtahdaknaoogpkaaGreat
