/- Byte slices that a call makes: appending, turning into a string. -/
import Derived.Test.YtokjkmibnjfkaaaProg
import Derived.Test.YtokjkmibnjfkaaaMem
import Derived.Test.YtokjkmibnjfkaaaStr
import Derived.WalkKit
import Derived.Lib.Hide
namespace Go.Proofs.Ytokjkmibnjfkaaa
open Go.RowKit

/-- a string of bytes. -/
def bs (l : List UInt8) : ByteArray := ⟨l.toArray⟩
theorem bs_list (l : List UInt8) : (bs l).data.toList = l := rfl
theorem bs_size (l : List UInt8) : (bs l).size = l.length := rfl
theorem bs_of (s : ByteArray) : bs s.data.toList = s := by cases s; rfl
theorem bs_inj {a b : List UInt8} : bs a = bs b ↔ a = b := ⟨fun h => by have := congrArg (fun s : ByteArray => s.data.toList) h; simpa [bs_list] using this, fun h => by rw [h]⟩

def byteV (b : UInt8) : Value := .int .u8 (b.toNat : Int)
theorem byteV_of {z : Int} (h0 : 0 ≤ z) (h1 : z < 256) : Value.int .u8 z = byteV (UInt8.ofNat z.toNat) := by
  unfold byteV
  rw [UInt8.toNat_ofNat']
  congr 1
  omega

theorem new_cells (w : World) (vs : List Value) (e : TypeId) : ∀ j u, vs[j]? = some u → (w.alloc (.cells vs.toArray e)).cell? ((⟨w.heap.size, 0, none⟩ : Addr).add j) = some u := by
  intro j u h
  rw [addr_add]
  simp only [World.cell?]
  have : (w.alloc (.cells vs.toArray e)).heap[w.heap.size]? = some (.cells vs.toArray e) := by show (w.heap.push _)[w.heap.size]? = _; simp
  rw [this]
  simpa using h

theorem info_u8 : (Try.prog.info? 5).map (fun i => (i.zero, i.size, i.bytes)) = some (some (.int .u8 0), 1, 1) := by kernel_rfl

/-- bytes that the call owns. -/
def OwnB (w : World) (B : Nat) (v : Value) (out : List UInt8) : Prop := w.ownsRow B 5 1 v out.length (out.map byteV)
theorem OwnB.alloc {w : World} {B : Nat} {v : Value} {out : List UInt8} (h : OwnB w B v out) (o : Obj) : OwnB (w.alloc o) B v out := World.ownsRow.alloc h o
theorem OwnB.drew {w : World} {B : Nat} {v : Value} {out : List UInt8} (h : OwnB w B v out) : OwnB w.drew B v out := h
theorem OwnB.kept {w w' : World} {B C : Nat} {v : Value} {out : List UInt8} (h : OwnB w B v out) (hb : Below C w w') (hc : w.heap.size ≤ C) : OwnB w' B v out := by
  obtain ⟨h1, h2⟩ := h
  refine ⟨h1, h2.imp id fun ⟨g, cap, cur, e, hg, hh, r⟩ => ⟨g, cap, cur, e, hg, ?_, r⟩⟩
  have : g < w.heap.size := by
    rcases Nat.lt_or_ge g w.heap.size with hl | hl
    · exact hl
    · rw [Array.getElem?_eq_none hl] at hh; cases hh
  rw [hb.block g (by omega)]; exact hh
theorem OwnB.len {w : World} {B : Nat} {v : Value} {out : List UInt8} (h : OwnB w B v out) : ∃ a c, v = .slice a out.length c := by
  obtain ⟨h1, ⟨e, h2⟩ | ⟨g, cap, cur, e, _⟩⟩ := h
  · exact ⟨none, 0, by rw [e, h2]⟩
  · exact ⟨_, _, e⟩
theorem OwnB.nil (w : World) (B : Nat) : OwnB w B (.slice none 0 0) [] := World.ownsRow_nil w B _ 1
/-- a literal []byte that was just laid. -/
theorem OwnB.made (w : World) (B : Nat) (hB : B ≤ w.heap.size) (l : List UInt8) (hl : l.length ≤ maxLen) : OwnB (w.alloc (.cells (l.map byteV).toArray 5)) B (.slice (some ⟨w.heap.size, 0, none⟩) l.length l.length) l := by
  refine ⟨by simp, .inr ⟨w.heap.size, l.length, (l.map byteV).toArray, rfl, hB, ?_, Nat.le_refl _, hl, by simp, by simp [List.take_of_length_le]⟩⟩
  show (w.heap.push _)[w.heap.size]? = _
  simp

/-- append of new bytes that lie somewhere. -/
theorem app_u8 {ops : Array Oper} {rest : List Oper} {o : Oper} {a : Act} {Q : Exit → Act → World → Prop} (w : World) (hgd : o.guard = none) (s x : Operand)
    (ho : o.op = .call { callee := .builtin .append, args := #[s, x], argTypes := #[77, 77] })
    (B : Nat) (v : Value) (out : List UInt8) (hs : a.eval s = v) (hown : OwnB w B v out)
    (ad : Addr) (m c : Nat) (news : List UInt8) (hx : a.eval x = .slice (some ad) m c) (hl : news.length = m)
    (hnews : ∀ j u, (news.map byteV)[j]? = some u → w.cell? (ad.add j) = some u)
    (hroom : out.length + m ≤ 140737488355328) (hbase : B ≤ w.heap.size)
    (h : ∀ v' w', OwnB w' B v' (out ++ news) → w.grownBy w' v.ownBlock → wpList Try.prog ops Q rest (a.put o.dst v') w') : wpList Try.prog ops Q (o :: rest) a w := by
  obtain ⟨i, hi, hz0, hz1, hz2⟩ := info_parts info_u8
  refine wpList_append_own w hgd s x 77 ho B 5 i (.int .u8 0) 1 1 Try.underlying77 hi hz0 hz1 hz2 rfl (by decide) v out.length (out.map byteV) hs hown ad m c (news.map byteV) hx (by simp [hl]) hnews ?_ (by unfold maxLen; omega) (by omega) hbase ?_
  · intro u hu
    obtain ⟨b, _, rfl⟩ := List.mem_map.1 hu
    rfl
  · intro v' w' h1 h2 _
    refine h v' w' ?_ h2
    unfold OwnB
    rw [List.length_append, hl, List.map_append]
    exact h1

/-- 'string(b)'. -/
theorem run_bytes_str {w : World} {B : Nat} {v : Value} {out : List UInt8} (h : OwnB w B v out) :
    (Go.convert 77 9 v).run Try.prog w = .ok (.string (bs out)) w := by
  obtain ⟨h1, ⟨rfl, h2⟩ | ⟨g, cap, cur, rfl, hg, hh, hc, hm, hs, ht⟩⟩ := h
  · have : out = [] := by simpa using h2
    subst this
    exact run_convert_bytes_nil w 77 5 Try.underlying77 Try.underlying5 0 0 9 Try.underlying9
  · refine run_convert_bytes_back w 77 9 5 _ _ out Try.underlying77 Try.underlying5 Try.underlying9 (fun j hj => ?_)
    rw [addr_add]
    simp only [World.cell?, hh]
    rw [if_neg (by simp)]
    have e : cur.toList[j]? = (out.map byteV)[j]? := by
      rw [← ht, List.getElem?_take_of_lt (by omega)]
    rw [Nat.zero_add, ← Array.getElem?_toList, e, List.getElem?_map, List.getElem?_eq_getElem hj]
    rfl

/-- append of bytes that were laid just before. -/
theorem app_u8_lit {ops : Array Oper} {rest : List Oper} {o : Oper} {a : Act} {Q : Exit → Act → World → Prop} (w : World) (hgd : o.guard = none) (s x : Operand)
    (ho : o.op = .call { callee := .builtin .append, args := #[s, x], argTypes := #[77, 77] })
    (B : Nat) (v : Value) (out : List UInt8) (hs : a.eval s = v) (hown : OwnB w B v out)
    (vals : List Value) (hx : a.eval x = .slice (some ⟨w.heap.size, 0, none⟩) vals.length vals.length) (news : List UInt8) (hn : vals = news.map byteV)
    (hroom : out.length + vals.length ≤ 140737488355328) (hbase : B ≤ w.heap.size)
    (h : ∀ v' w', OwnB w' B v' (out ++ news) → Below B w w' → wpList Try.prog ops Q rest (a.put o.dst v') w') :
    wpList Try.prog ops Q (o :: rest) a (w.alloc (.cells vals.toArray 5)) := by
  subst hn
  refine app_u8 _ hgd s x ho B v out hs (hown.alloc _) ⟨w.heap.size, 0, none⟩ _ _ news hx (by simp) (new_cells w _ _) hroom ?_ ?_
  · have : (w.alloc (.cells (news.map byteV).toArray 5)).heap.size = w.heap.size + 1 := by simp
    omega
  · intro v' w' h1 h2
    refine h v' w' h1 (((Below.refl B w).alloc hbase _).grown h2 (by simp; omega) ?_)
    intro k hk
    exact (World.ownsRow.lt hown k hk).1

/-- 'string([]byte{b})'. -/
theorem run_str_one (z : Int) (d : UInt8) (hz : Value.int .u8 z = byteV d) (W : World) (b : Nat) (hc : W.cell? ⟨b, 0, none⟩ = some (.int .u8 z)) :
    (Go.convert 77 9 (.slice (some ⟨b, 0, none⟩) 1 1)).run Try.prog W = .ok (.string (bs [d])) W := by
  refine run_convert_bytes_back W 77 9 5 _ _ [d] Try.underlying77 Try.underlying5 Try.underlying9 (fun j hj => ?_)
  obtain rfl : j = 0 := by simpa using hj
  rw [addr_add]
  exact hc.trans (congrArg some hz)

/-- the same as one step of a region that draws its order. -/
theorem step_app_u8_lit {ops : Array Oper} {o : Oper} {a : Act} {K : Act → World → Prop} {Q : Exit → Act → World → Prop} {E : Prop} (w : World) (hgd : o.guard = none) (s x : Operand)
    (ho : o.op = .call { callee := .builtin .append, args := #[s, x], argTypes := #[77, 77] })
    (B : Nat) (v : Value) (out : List UInt8) (hs : a.eval s = v) (hown : OwnB w B v out)
    (vals : List Value) (hx : a.eval x = .slice (some ⟨w.heap.size, 0, none⟩) vals.length vals.length) (news : List UInt8) (hn : vals = news.map byteV)
    (hroom : out.length + vals.length ≤ 140737488355328) (hbase : B ≤ w.heap.size)
    (h : ∀ v' w', OwnB w' B v' (out ++ news) → Below B w w' → K (a.put o.dst v') w') :
    if Region.wanted o (yielded ops a.tmps) = true then Oper.wp Try.prog o a (w.alloc (.cells vals.toArray 5)) K Q else E := by
  rw [if_pos (by simp [Region.wanted, hgd])]
  subst hn
  obtain ⟨i, hi, hz0, hz1, hz2⟩ := info_parts info_u8
  refine wp_append_own _ s x 77 ho B 5 i (.int .u8 0) 1 1 Try.underlying77 hi hz0 hz1 hz2 rfl (by decide) v out.length (out.map byteV) hs (World.ownsRow.alloc hown _) ⟨w.heap.size, 0, none⟩ _ _ (news.map byteV) hx (by simp) (new_cells w _ _) ?_ ?_ ?_ ?_ ?_
  · intro u hu
    obtain ⟨b, _, rfl⟩ := List.mem_map.1 hu
    rfl
  · unfold maxLen; omega
  · omega
  · have : (w.alloc (.cells (news.map byteV).toArray 5)).heap.size = w.heap.size + 1 := by simp
    omega
  · intro v' w' h1 h2 _
    refine h v' w' ?_ (((Below.refl B w).alloc hbase _).grown h2 (by simp; omega) ?_)
    · unfold OwnB
      rw [List.length_append, List.map_append]
      rw [List.length_map] at h1
      exact h1
    · intro k hk
      exact (World.ownsRow.lt hown k hk).1
end Go.Proofs.Ytokjkmibnjfkaaa
