import Derived.Test.YtahdaknaoogpkaaGreatHCompW
import Derived.Test.YtahdaknaoogpkaaGreatCdB
import Derived.Test.YtahdaknaoogpkaaGreatHaB
import Derived.Test.YtahdaknaoogpkaaGreatPgB
import Derived.Test.YtahdaknaoogpkaaGreatGwB
import Derived.Test.YtahdaknaoogpkaaGreatPaB
/- The law of Compile, over the second engine. -/
set_option maxRecDepth 100000
set_option maxHeartbeats 8000000
namespace Go.Proofs.YtahdaknaoogpkaaGreat
set_option linter.unusedVariables false
set_option linter.unusedSimpArgs false
open Go.RowKit Arb
def codeA (s : CS) : MCode := if s.lost = true then ⟨[], []⟩ else ⟨s.ins, s.pats⟩
theorem ansC_eq (s : CS) : ansC s = .tup [.ag (codeA s).own, .s (.bool (!s.lost))] := by
  unfold ansC codeA
  cases s.lost <;> rfl
theorem ansW_eq (s : CS) : ansW s = .tup [.ag (codeA s).enc, .s (.bool (!s.lost))] := by
  unfold ansW codeA
  cases s.lost <;> rfl
structure CompAns (p : MProgram) (c : MCode) (b : Bool) : Prop where
  impl : FCon Tryz.prog 17 [.ag p.enc] (fun r _ => r = .tup [.ag c.own, .s (.bool b)])
  spec : FCon Tryz.prog 16 [.ag p.enc] (fun r _ => r = .tup [.ag c.enc, .s (.bool b)])
  no : b = false → c = ⟨[], []⟩
  ok : b = true → progM p = true ∧ ∃ t : ET, p.nodes = Arb.lay EI.node 0 t ∧ okT t ∧ t.size ≤ 600 ∧ (codeI true t).lost = false ∧ c = ⟨(codeI true t).ins, (codeI true t).pats⟩
theorem comp_both (p : MProgram) (ho : p.ok) (hs : p.sm) : ∃ c b, CompAns p c b := by
  cases hp : progM p with
  | false => exact ⟨⟨[], []⟩, false, c_implCompile_bad p ho hs hp, c_specCompile_bad p ho hs hp, fun _ => rfl, fun h => by cases h⟩
  | true =>
    obtain ⟨t, ht, ok, hz, -, -⟩ := tree_of hp
    have hi := c_implCompile_ok p ho hs hp t ht ok hz
    have hw := c_specCompile_ok p ho hs hp t ht ok hz
    have hr : Rl (codeI true t) (codeI false t) := (cmp_ag t ok [] ⟨[], [], false⟩ (by show 0 + _ ≤ _; omega)).same (u := fun q => q.emit ⟨11, 0, 0, eS⟩) fun _ => rfl
    rw [ansC_eq] at hi
    rw [ansW_eq] at hw
    have he : codeA (codeI false t) = codeA (codeI true t) ∧ (codeI false t).lost = (codeI true t).lost := by
      rcases hr with e | ⟨e1, e2⟩
      · rw [e]; exact ⟨rfl, rfl⟩
      · exact ⟨by unfold codeA; rw [e1, e2]; rfl, by rw [e1, e2]⟩
    rw [he.1, he.2] at hw
    refine ⟨_, _, hi, hw, fun h => ?_, fun h => ⟨hp, t, ht, ok, hz, ?_, ?_⟩⟩
    · have : (codeI true t).lost = true := by simpa using h
      unfold codeA; rw [if_pos this]
    · simpa using h
    · have : (codeI true t).lost = false := by simpa using h
      unfold codeA; rw [if_neg (by rw [this]; simp)]
theorem code_sm {p : MProgram} {c : MCode} {b : Bool} (h : CompAns p c b) (hs : p.sm) : c.sm ∧ c.cnt ≤ 100000000 := by
  cases b with
  | false => rw [h.no rfl]; exact ⟨⟨⟨by simp, by simp⟩, by simp, by simp⟩, by simp [MCode.cnt, cnts]⟩
  | true =>
    obtain ⟨hp, t, ht, ok, hz, hl, rfl⟩ := h.ok rfl
    have hA := At.zero (f := EI.node) t
    rw [← ht] at hA
    have hal : All (fun a _ => a.s.size ≤ 1048576 ∧ ∀ q ∈ a.pats, q.sm ∧ patM q.nodes = true) t := by
      have h1 : All (fun a _ => a.s.size ≤ 1048576 ∧ ∀ q ∈ a.pats, q.sm) t := all_of t 0 hA fun j x l hj => by
        have := hs.2.2 _ (List.mem_of_getElem? hj.root)
        exact ⟨this.1, this.2.2.2⟩
      clear hl hz ht hA h
      induction t using Arb.ind with
      | h a l ih =>
        exact .mk ⟨h1.root.1, fun q hq => ⟨h1.root.2 q hq, ok.root.pm q hq⟩⟩ fun t ht => ih t ht (ok.kid t ht) (h1.kid t ht)
    have hsm := (cmp_sm true (R := fun s => s.size ≤ 1048576) (Q := fun q => q.sm ∧ patM q.nodes = true) (by decide) t ok hal [] ⟨[], [], false⟩ ⟨by simp, by simp⟩).emit ⟨11, 0, 0, eS⟩ (by decide)
    have g := cmp_gr true t ok
    have g1 : (codeI true t).ins.length ≤ 2400 := by
      have := g.hi [] ⟨[], [], false⟩
      have e : (codeI true t).ins.length = (cmp true t [] ⟨[], [], false⟩).ins.length + 1 := emit_len _ _
      have : (cmp true t [] ⟨[], [], false⟩).ins.length ≤ 0 + (4 * t.size - 3) := this
      omega
    have g2 : (codeI true t).pats.length ≤ 1200 := by
      have := g.phi [] ⟨[], [], false⟩
      have : (cmp true t [] ⟨[], [], false⟩).pats.length ≤ 0 + (2 * t.size - 1) := this
      show (cmp true t [] ⟨[], [], false⟩).pats.length ≤ _
      omega
    refine ⟨⟨⟨by show (codeI true t).ins.length ≤ _; omega, hsm.ins⟩, by show (codeI true t).pats.length ≤ _; omega, fun q hq => (hsm.pats q hq).1⟩, ?_⟩
    rw [MCode.cnt_eq]
    have c1 : cnts MIns.cnt (codeI true t).ins = 4 * (codeI true t).ins.length := cnts_const (fun _ => rfl) _
    have c2 : cnts MPat.cnt (codeI true t).pats ≤ (codeI true t).pats.length * 10000 := cnts_bound _ fun q hq => by
      have hp := (hsm.pats q hq).2
      have h1 := patM_len hp
      have h2 := patM_kids hp
      rw [MPat.cnt_eq]
      have : cnts DPNode.cnt q.nodes ≤ q.nodes.length * 5 := cnts_bound _ fun x hx => by
        have := h2 x hx
        rw [DPNode.cnt_eq, cnts_const (n := 1) (fun _ => rfl)]; omega
      omega
    show cnts MIns.cnt (codeI true t).ins + cnts MPat.cnt (codeI true t).pats ≤ _
    omega
theorem c_FnExactCompile (p : MProgram) (ho : p.ok) : FCon Tryz.prog 5 [.ag p.enc] (fun r _ => r = .s (.bool true)) := by
  by_cases hz : p.tot ≤ 1048576
  · have hs := MProgram.sm_of hz
    have hpc := MProgram.cnt_le p
    obtain ⟨c, b, hC⟩ := comp_both p ho hs
    obtain ⟨hcs, hcc⟩ := code_sm hC hs
    have tp := c_toProgram p hs
    have ep := c_eqProgram p
    have ec := c_eqCode c
    have ci := hC.impl
    have cs := hC.spec
    have mp := c_markProgram p hs 1 (by omega) (by omega)
    have mc := c_markCode c hcs 1 (by omega) (by omega)
    have hc := c_heldCode c hcs 1 (by omega) (by omega)
    clear hC
    refine FCon.intro PM _ Tryz.func5 (by kernel_rfl) rfl _ Tryz.ntmps5 rfl [(10, 3, [], [], (lin [] [0, 1, 2]))] (by decide +kernel) (by simp) (by simp) rfl (by first | rfl | simp only [go_sem]) ?_
    (have hWf := WFx.mk (ai @MProgram.enc_eq <| ai @MProgram.own_eq <| ai @MProgram.mark_eq <| ai @MCode.enc_eq <| ai @MCode.own_eq <| ai @MCode.mark_eq <| ai @marks_len <| ai @pure_tupL <| @pure_agL); repeat' (first | refine zS ?_ | exact zE | with_reducible apply And.intro | ((with_reducible apply q_CallG); refine CallG_mk (d_szProgram p ho 1048576 (by omega) (by omega)) ?_; rintro _ _ ⟨z, rfl, za, zb, zc⟩) | ((with_reducible apply q_CallQ); refine CallQ_mk (d_szProgram p ho 1048576 (by omega) (by omega)) ?_) | refine zK (tp) ?_ | refine zK (cs) ?_ | refine zK (ci) ?_ | refine zK (ec) ?_ | refine zK (ep) ?_ | refine zH mp ?_ | refine zH mc ?_ | refine zK (hc) ?_ | with_reducible exact zB0 | with_reducible refine zB fun hb => ?_ | exact zC | refine zT ?_ | fail))
  · refine FCon.intro PM _ Tryz.func5 (by kernel_rfl) rfl _ Tryz.ntmps5 rfl [(10, 3, [], [], (lin [] [0, 1, 2]))] (by decide +kernel) (by simp) (by simp) rfl (by first | rfl | simp only [go_sem]) ?_
    (have hWf := WFx.mk @MProgram.enc_eq; repeat' (first | refine zS ?_ | exact zE | with_reducible apply And.intro | ((with_reducible apply q_CallG); refine CallG_mk (d_szProgram p ho 1048576 (by omega) (by omega)) ?_; rintro _ _ ⟨z, rfl, za, zb, zc⟩) | ((with_reducible apply q_CallQ); refine CallQ_mk (d_szProgram p ho 1048576 (by omega) (by omega)) ?_) | with_reducible exact zB0 | with_reducible refine zB fun hb => ?_ | exact zC | refine zT ?_ | fail))
    all_goals exact absurd (by have := zc (by omega); omega) hz
end Go.Proofs.YtahdaknaoogpkaaGreat

namespace Go.Proofs.YtahdaknaoogpkaaGreat
set_option linter.unusedVariables false
set_option linter.unusedSimpArgs false
open Go.RowKit Go.ChangeShapes Go.WideShapes
theorem rdE_int : RdE 3 1 iE I64 := (funext iE_eq ▸ RdE.int Tryz.underlying3 (by kernel_rfl))
theorem rdE_ints : RdE 94 1 (fun l : List Int => [intsD l]) (fun l => ∀ x ∈ l, I64 x) := RdE.slice Tryz.underlying94 (by kernel_rfl) (by decide) rdE_int
theorem rdE_string : RdE 9 1 (fun s : ByteArray => [.s (.string s)]) (fun s => s.size ≤ maxLen) := RdE.string Tryz.underlying9 (by kernel_rfl)
theorem rdE_bool : RdE 4 1 (fun b : Bool => [.s (.bool b)]) (fun _ => True) := RdE.bool Tryz.underlying4 (by kernel_rfl)
theorem rdE_TyItem : RdE 328 3 TyI.enc TyI.ok := by
  refine ⟨by kernel_rfl, fun H en W n cs x h => ?_⟩
  obtain ⟨hl, m, hf⟩ := rd_fields Tryz.underlying328 h
  rw [show Tryz.prog.cellsOf 328 = 3 from by kernel_rfl] at hl
  simp only [List.forall_mem_cons, rdE_int.1, rdE_string.1] at hf
  obtain ⟨⟨_, h0⟩, ⟨_, h1⟩, ⟨_, h2⟩, _⟩ := hf
  obtain ⟨a0, r0, o0⟩ := rdE_int.2 _ _ _ _ _ _ h0
  obtain ⟨a1, r1, o1⟩ := rdE_string.2 _ _ _ _ _ _ h1
  obtain ⟨a2, r2, o2⟩ := rdE_int.2 _ _ _ _ _ _ h2
  refine ⟨⟨a0, a1, a2⟩, ?_, o0, o1, o2⟩
  rw [iE_eq] at r0 r2
  exact (PartsL.cons (k := 1) r0 (PartsL.cons (k := 1) r1 (PartsL.cons (k := 1) r2 (PartsL.nil hl.symm) (by omega)) (by omega)) (by omega)).rep
theorem rdE_TyItems : RdE 283 1 (fun xs : List TyI => [.sl 3 (xs.map TyI.enc)]) (fun xs => ∀ x ∈ xs, x.ok) := RdE.slice Tryz.underlying283 (by kernel_rfl) (by decide) rdE_TyItem
theorem rdE_Ty : RdE 285 1 (fun xs : List TyI => [.sl 3 (xs.map TyI.enc)]) (fun xs => ∀ x ∈ xs, x.ok) := by
  refine ⟨by kernel_rfl, fun H en W n cs x h => ?_⟩
  obtain ⟨hl, m, hf⟩ := rd_fields Tryz.underlying285 h
  rw [show Tryz.prog.cellsOf 285 = 1 from by kernel_rfl] at hl
  simp only [List.forall_mem_cons, rdE_TyItems.1] at hf
  obtain ⟨⟨_, h0⟩, _⟩ := hf
  obtain ⟨a0, r0, o0⟩ := rdE_TyItems.2 _ _ _ _ _ _ h0
  exact ⟨a0, (PartsL.cons (k := 1) r0 (PartsL.nil hl.symm) (by omega)).rep, o0⟩
theorem rdE_PNode : RdE 324 4 DPNode.enc DPNode.ok := by
  refine ⟨by kernel_rfl, fun H en W n cs x h => ?_⟩
  obtain ⟨hl, m, hf⟩ := rd_fields Tryz.underlying324 h
  rw [show Tryz.prog.cellsOf 324 = 4 from by kernel_rfl] at hl
  simp only [List.forall_mem_cons, rdE_int.1, rdE_string.1, rdE_ints.1] at hf
  obtain ⟨⟨_, h0⟩, ⟨_, h1⟩, ⟨_, h2⟩, ⟨_, h3⟩, _⟩ := hf
  obtain ⟨a0, r0, o0⟩ := rdE_int.2 _ _ _ _ _ _ h0
  obtain ⟨a1, r1, o1⟩ := rdE_int.2 _ _ _ _ _ _ h1
  obtain ⟨a2, r2, o2⟩ := rdE_string.2 _ _ _ _ _ _ h2
  obtain ⟨a3, r3, o3⟩ := rdE_ints.2 _ _ _ _ _ _ h3
  refine ⟨⟨a0, a1, a2, a3⟩, ?_, o0, o1, o2, o3⟩
  rw [iE_eq] at r0 r1
  exact (PartsL.cons (k := 1) r0 (PartsL.cons (k := 1) r1 (PartsL.cons (k := 1) r2 (PartsL.cons (k := 1) r3 (PartsL.nil hl.symm) (by omega)) (by omega)) (by omega)) (by omega)).rep
theorem rdE_PNodes : RdE 289 1 (fun xs : List DPNode => [.sl 4 (xs.map DPNode.enc)]) (fun xs => ∀ x ∈ xs, x.ok) := RdE.slice Tryz.underlying289 (by kernel_rfl) (by decide) rdE_PNode
theorem rdE_Pat : RdE 291 1 MPat.enc MPat.ok := by
  refine ⟨by kernel_rfl, fun H en W n cs x h => ?_⟩
  obtain ⟨hl, m, hf⟩ := rd_fields Tryz.underlying291 h
  rw [show Tryz.prog.cellsOf 291 = 1 from by kernel_rfl] at hl
  simp only [List.forall_mem_cons, rdE_PNodes.1] at hf
  obtain ⟨⟨_, h0⟩, _⟩ := hf
  obtain ⟨a0, r0, o0⟩ := rdE_PNodes.2 _ _ _ _ _ _ h0
  refine ⟨⟨a0⟩, ?_, o0⟩
  exact (PartsL.cons (k := 1) r0 (PartsL.nil hl.symm) (by omega)).rep
theorem rdE_Pats : RdE 134 1 (fun xs : List MPat => [.sl 1 (xs.map MPat.enc)]) (fun xs => ∀ x ∈ xs, x.ok) := RdE.slice Tryz.underlying134 (by kernel_rfl) (by decide) rdE_Pat
theorem rdE_Node : RdE 136 6 MNode.enc MNode.ok := by
  refine ⟨by kernel_rfl, fun H en W n cs x h => ?_⟩
  obtain ⟨hl, m, hf⟩ := rd_fields Tryz.underlying136 h
  rw [show Tryz.prog.cellsOf 136 = 6 from by kernel_rfl] at hl
  simp only [List.forall_mem_cons, rdE_int.1, rdE_string.1, rdE_ints.1, rdE_Pats.1] at hf
  obtain ⟨⟨_, h0⟩, ⟨_, h1⟩, ⟨_, h2⟩, ⟨_, h3⟩, ⟨_, h4⟩, ⟨_, h5⟩, _⟩ := hf
  obtain ⟨a0, r0, o0⟩ := rdE_int.2 _ _ _ _ _ _ h0
  obtain ⟨a1, r1, o1⟩ := rdE_int.2 _ _ _ _ _ _ h1
  obtain ⟨a2, r2, o2⟩ := rdE_int.2 _ _ _ _ _ _ h2
  obtain ⟨a3, r3, o3⟩ := rdE_string.2 _ _ _ _ _ _ h3
  obtain ⟨a4, r4, o4⟩ := rdE_ints.2 _ _ _ _ _ _ h4
  obtain ⟨a5, r5, o5⟩ := rdE_Pats.2 _ _ _ _ _ _ h5
  refine ⟨⟨a0, a1, a2, a3, a4, a5⟩, ?_, o0, o1, o2, o3, o4, o5⟩
  rw [iE_eq] at r0 r1 r2
  exact (PartsL.cons (k := 1) r0 (PartsL.cons (k := 1) r1 (PartsL.cons (k := 1) r2 (PartsL.cons (k := 1) r3 (PartsL.cons (k := 1) r4 (PartsL.cons (k := 1) r5 (PartsL.nil hl.symm) (by omega)) (by omega)) (by omega)) (by omega)) (by omega)) (by omega)).rep
theorem rdE_Nodes : RdE 23 1 (fun xs : List MNode => [.sl 6 (xs.map MNode.enc)]) (fun xs => ∀ x ∈ xs, x.ok) := RdE.slice Tryz.underlying23 (by kernel_rfl) (by decide) rdE_Node
theorem rdE_Con : RdE 287 3 MCon.enc MCon.ok := by
  refine ⟨by kernel_rfl, fun H en W n cs x h => ?_⟩
  obtain ⟨hl, m, hf⟩ := rd_fields Tryz.underlying287 h
  rw [show Tryz.prog.cellsOf 287 = 3 from by kernel_rfl] at hl
  simp only [List.forall_mem_cons, rdE_string.1, rdE_bool.1, rdE_Ty.1] at hf
  obtain ⟨⟨_, h0⟩, ⟨_, h1⟩, ⟨_, h2⟩, _⟩ := hf
  obtain ⟨a0, r0, o0⟩ := rdE_string.2 _ _ _ _ _ _ h0
  obtain ⟨a1, r1, o1⟩ := rdE_bool.2 _ _ _ _ _ _ h1
  obtain ⟨a2, r2, o2⟩ := rdE_Ty.2 _ _ _ _ _ _ h2
  refine ⟨⟨a0, a1, a2⟩, ?_, o0, o1, o2⟩
  exact (PartsL.cons (k := 1) r0 (PartsL.cons (k := 1) r1 (PartsL.cons (k := 1) r2 (PartsL.nil hl.symm) (by omega)) (by omega)) (by omega)).rep
theorem rdE_Cons : RdE 130 1 (fun xs : List MCon => [.sl 3 (xs.map MCon.enc)]) (fun xs => ∀ x ∈ xs, x.ok) := RdE.slice Tryz.underlying130 (by kernel_rfl) (by decide) rdE_Con
theorem rdE_Type : RdE 132 3 MType.enc MType.ok := by
  refine ⟨by kernel_rfl, fun H en W n cs x h => ?_⟩
  obtain ⟨hl, m, hf⟩ := rd_fields Tryz.underlying132 h
  rw [show Tryz.prog.cellsOf 132 = 3 from by kernel_rfl] at hl
  simp only [List.forall_mem_cons, rdE_string.1, rdE_int.1, rdE_Cons.1] at hf
  obtain ⟨⟨_, h0⟩, ⟨_, h1⟩, ⟨_, h2⟩, _⟩ := hf
  obtain ⟨a0, r0, o0⟩ := rdE_string.2 _ _ _ _ _ _ h0
  obtain ⟨a1, r1, o1⟩ := rdE_int.2 _ _ _ _ _ _ h1
  obtain ⟨a2, r2, o2⟩ := rdE_Cons.2 _ _ _ _ _ _ h2
  refine ⟨⟨a0, a1, a2⟩, ?_, o0, o1, o2⟩
  rw [iE_eq] at r1
  exact (PartsL.cons (k := 1) r0 (PartsL.cons (k := 1) r1 (PartsL.cons (k := 1) r2 (PartsL.nil hl.symm) (by omega)) (by omega)) (by omega)).rep
theorem rdE_Types : RdE 22 1 (fun xs : List MType => [.sl 3 (xs.map MType.enc)]) (fun xs => ∀ x ∈ xs, x.ok) := RdE.slice Tryz.underlying22 (by kernel_rfl) (by decide) rdE_Type
theorem rdE_Program : RdE 25 2 MProgram.enc MProgram.ok := by
  refine ⟨by kernel_rfl, fun H en W n cs x h => ?_⟩
  obtain ⟨hl, m, hf⟩ := rd_fields Tryz.underlying25 h
  rw [show Tryz.prog.cellsOf 25 = 2 from by kernel_rfl] at hl
  simp only [List.forall_mem_cons, rdE_Types.1, rdE_Nodes.1] at hf
  obtain ⟨⟨_, h0⟩, ⟨_, h1⟩, _⟩ := hf
  obtain ⟨a0, r0, o0⟩ := rdE_Types.2 _ _ _ _ _ _ h0
  obtain ⟨a1, r1, o1⟩ := rdE_Nodes.2 _ _ _ _ _ _ h1
  refine ⟨⟨a0, a1⟩, ?_, o0, o1⟩
  exact (PartsL.cons (k := 1) r0 (PartsL.cons (k := 1) r1 (PartsL.nil hl.symm) (by omega)) (by omega)).rep
end Go.Proofs.YtahdaknaoogpkaaGreat
