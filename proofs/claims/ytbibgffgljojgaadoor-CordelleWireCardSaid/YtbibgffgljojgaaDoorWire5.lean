/- Package rtp: Pack, of what may not be; a sealed packet's bytes. No condition but the sizes. (Printed by gen_wire5.py.) -/
import Derived.Test.YtbibgffgljojgaaDoorWire4
import Derived.Test.YtbibgffgljojgaaDoorCrcSeal
namespace Go.Proofs.YtbibgffgljojgaaDoor
open Go.RowKit BigFrame
attribute [local go_sem ↓] Go.wp_at_zero Go.wp_at_succ

theorem rtp_Pack_no (mk : Bool) (kd sq tm sc : Int) (oa : Option Addr) (on oc : Nat) (hx : Bool) (pf : Int) (ex da : ByteArray) (he : ex.size ≤ 10000) (hz : mayH kd pf on hx ex = false) (w : World) :
    Calls Tryd.prog 7 #[.agg #[.bool mk, .int .i64 kd, .int .u16 sq, .int .u32 tm, .int .u32 sc, .slice oa on oc, .bool hx, .int .i64 pf, .string ex, .string da, .int .i64 0]] w fun e w' => e = .returned (.string ⟨#[]⟩) ∧ Below w.heap.size w w' := by
  have HCK := Lib.hid (fun W => rtp_Check mk kd sq tm sc oa on oc hx pf ex da he false hz W)
  have K := Blk.new w 28 #[.bool mk, .int .i64 kd, .int .u16 sq, .int .u32 tm, .int .u32 sc, .slice oa on oc, .bool hx, .int .i64 pf, .string ex, .string da, .int .i64 0]
  have B : Below w.heap.size w (w.alloc (.cells #[.bool mk, .int .i64 kd, .int .u16 sq, .int .u32 tm, .int .u32 sc, .slice oa on oc, .bool hx, .int .i64 pf, .string ex, .string da, .int .i64 0] 28)) := (Below.refl _ w).alloc (Nat.le_refl _) _
  clear hz he
  go_enter Tryd.func7, Tryd.ntmps7
  go_upto_region 1 with fail
  generalize w.alloc (.cells #[.bool mk, .int .i64 kd, .int .u16 sq, .int .u32 tm, .int .u32 sc, .slice oa on oc, .bool hx, .int .i64 pf, .string ex, .string da, .int .i64 0] 28) = w1 at *
  have c1 := K.cell
  simp at c1
  go_wp2_with fail
  refine (HCK.out _).mono ?_
  rintro e w2 ⟨rfl, hb2⟩
  have B2 := below_then B hb2 (Nat.le_refl _)
  clear c1 hb2 B K HCK
  go_wp2_with fail
  go_ret
  exact ⟨rfl, B2⟩
def hdK (mk : Bool) (kd sq tm sc : Int) (f : Nat → Int) (on : Nat) (hx : Bool) (pf : Int) (ex : ByteArray) : List Int :=
  (headK (firstP on hx) (secondP mk kd) sq tm sc f on).flatMap id ++ (if hx then (extK pf ((ex.size : Int) / 4) ex).flatMap id else [])
theorem bytK_split (mk : Bool) (kd sq tm sc : Int) (f : Nat → Int) (on : Nat) (hx : Bool) (pf : Int) (ex da : ByteArray) : bytK mk kd sq tm sc f on hx pf ex da = hdK mk kd sq tm sc f on hx pf ex ++ bytesI da := by
  unfold bytK hdK
  rw [raw2]
theorem beAllW_ok (ns : Nat → Int) (s k : Nat) : Bytes (beAll ns s k) := fun x hx => by
  obtain ⟨i, _, h⟩ := List.mem_flatMap.1 hx
  exact beI_bytes _ _ x h
theorem be4AllW_ok (ns : Nat → Int) (k : Nat) : Bytes (be4All ns k) := fun x hx => by
  obtain ⟨i, _, h⟩ := List.mem_flatMap.1 hx
  exact beI_bytes _ _ x h
theorem hdK_ok (mk : Bool) (kd sq tm sc : Int) (f : Nat → Int) (on : Nat) (hx : Bool) (pf : Int) (ex : ByteArray) : Bytes (hdK mk kd sq tm sc f on hx pf ex) := by
  have hn : Bytes [] := fun x hx => by cases hx
  unfold hdK headK extK rawAll
  refine Bytes.append ?_ ?_
  · simp only [List.flatMap_cons, List.flatMap_nil, id]
    exact (beAllW_ok _ _ _).append ((beAllW_ok _ _ _).append ((be4AllW_ok _ _).append ((be4AllW_ok _ _).append hn)))
  · split
    · simp only [List.flatMap_cons, List.flatMap_nil, id, List.append_nil]
      refine (beAllW_ok _ _ _).append (fun x hx => ?_)
      obtain ⟨i, _, h⟩ := List.mem_flatMap.1 hx
      exact bytesI_ok _ x h
    · exact hn
theorem hdK_len (mk : Bool) (kd sq tm sc : Int) (f : Nat → Int) (on : Nat) (hx : Bool) (pf : Int) (ex : ByteArray) (h1 : on ≤ 15) (h2 : ex.size ≤ 1000) : 12 ≤ (hdK mk kd sq tm sc f on hx pf ex).length ∧ (hdK mk kd sq tm sc f on hx pf ex).length ≤ 1200 := by
  have e4 : rawAll (fun i => [ex].getD i ByteArray.empty) 1 = bytesI ex := by unfold rawAll; simp
  unfold hdK headK extK
  rw [e4]
  simp only [List.flatMap_cons, List.flatMap_nil, id, List.append_nil, List.length_append, beAll_len, be4All_len]
  split
  · simp only [List.length_append, beAll_len, bytesI_len]; omega
  · simp only [List.length_nil]; omega
theorem bytesI_eq (s : ByteArray) : bytesI s = s.data.toList.map fun c => (c.toNat : Int) := rfl
/-- The bytes of a sealed text: its head, and other data whose end is the same. -/
theorem seal_wire (s da : ByteArray) (h z : List Int) (k : Nat) (hk : h.length = k) (hz : z.length = 4) (hs : bytesI s = h ++ (z ++ bytesI da)) :
    ∃ d2 : ByteArray, bytesI (sealB s k) = h ++ bytesI d2 ∧ d2.size = 4 + da.size ∧ d2.extract 4 d2.size = da := by
  obtain ⟨fl, hfl⟩ : ∃ fl, field (sealF (s.data.toList.take k) (s.data.toList.drop (k + 4))) = fl := ⟨_, rfl⟩
  have hfn : fl.length = 4 := by rw [← hfl]; rfl
  have hd2 : bytesI ⟨(fl ++ da.data.toList).toArray⟩ = fl.map (fun c => (c.toNat : Int)) ++ bytesI da := by
    rw [bytesI_eq, bytesI_eq]
    simp
  have hz2 : (⟨(fl ++ da.data.toList).toArray⟩ : ByteArray).size = 4 + da.size := by
    rw [← bytesI_len, hd2, List.length_append, List.length_map, hfn, bytesI_len]
  refine ⟨⟨(fl ++ da.data.toList).toArray⟩, ?_, hz2, ?_⟩
  · rw [hd2, bytesI_eq, sealB_list]
    unfold sealL
    rw [hfl, List.map_append, List.map_append, List.map_take, List.map_drop, ← bytesI_eq, hs]
    have e1 : (h ++ (z ++ bytesI da)).take k = h := by rw [← hk]; exact List.take_left
    have e2 : (h ++ (z ++ bytesI da)).drop (k + 4) = bytesI da := by
      rw [← List.append_assoc]
      have : (h ++ z).length = k + 4 := by rw [List.length_append, hk, hz]
      rw [← this]
      exact List.drop_left
    rw [e1, e2, List.append_assoc]
  · apply bytesI_inj
    rw [bytesI_drop, hd2]
    have : (fl.map (fun c => (c.toNat : Int))).length = 4 := by rw [List.length_map, hfn]
    rw [← this]
    exact List.drop_left
end Go.Proofs.YtbibgffgljojgaaDoor
