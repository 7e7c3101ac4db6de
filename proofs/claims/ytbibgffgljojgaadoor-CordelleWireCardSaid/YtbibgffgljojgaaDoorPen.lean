/- Package pen: what is written. No condition but that the writer stands and the sizes. -/
import Derived.Test.YtbibgffgljojgaaDoorFree
import Derived.Test.YtbibgffgljojgaaDoorApp
import Derived.Test.YtbibgffgljojgaaDoorOwn
import Derived.Laws.BytesArg
import Derived.Deep.AppendLies
import Derived.Deep.RegionLaw
namespace Go.Proofs.YtbibgffgljojgaaDoor
open Go.RowKit BigFrame
attribute [local go_sem ↓] Go.wp_at_zero Go.wp_at_succ

def u8C (bs : List Int) : List Value := bs.map (.int .u8)
theorem u8C_append (l m : List Int) : u8C (l ++ m) = u8C l ++ u8C m := List.map_append
/-- Nothing is changed but block g and the row; the row is the old one or new. -/
structure MovedP (w w' : World) (g : Nat) (v v' : Value) : Prop where
  below : Below 0 w w'
  keep : ∀ k, k < w.heap.size → k ≠ g → v.ownBlock ≠ some k → w'.heap[k]? = w.heap[k]?
  row : ∀ k, v'.ownBlock = some k → v.ownBlock = some k ∨ w.heap.size ≤ k
theorem MovedP.refl (w : World) (g : Nat) (v : Value) : MovedP w w g v v := ⟨Below.refl _ _, fun _ _ _ _ => rfl, fun _ h => .inl h⟩
theorem MovedP.of_below {w w' : World} {g : Nat} {v : Value} (h : Below w.heap.size w w') : MovedP w w' g v v := ⟨h.mono (Nat.zero_le _), fun k hk _ _ => h.block k hk, fun _ h => .inl h⟩
theorem MovedP.trans {w w1 w2 : World} {g : Nat} {v v1 v2 : Value} (h : MovedP w w1 g v v1) (h2 : MovedP w1 w2 g v1 v2) : MovedP w w2 g v v2 := by
  have s1 := h.below.size
  refine ⟨h.below.trans h2.below, fun k hk h3 h4 => (h2.keep k (by omega) h3 (fun e => ?_)).trans (h.keep k hk h3 h4), fun k hk => ?_⟩
  · rcases h.row k e with h5 | h5
    · exact h4 h5
    · omega
  · rcases h2.row k hk with h5 | h5
    · exact h.row k h5
    · right; omega
theorem MovedP.down {w w' : World} {g B : Nat} {v v' : Value} (h : MovedP w w' g v v') (hB : B ≤ w.heap.size) (hg : B ≤ g) (hv : ∀ k, v.ownBlock = some k → B ≤ k) : Below B w w' :=
  ⟨h.below.os, h.below.tape, h.below.output, h.below.size, fun k hk => h.keep k (by omega) (by omega) (fun e => by have := hv k e; omega)⟩
theorem MovedP.base {w w' : World} {g B : Nat} {v v' : Value} (h : MovedP w w' g v v') (hB : B ≤ w.heap.size) (hv : ∀ k, v.ownBlock = some k → B ≤ k) : ∀ k, v'.ownBlock = some k → B ≤ k := fun k hk => by
  rcases h.row k hk with h5 | h5
  · exact hv k h5
  · omega
theorem own_at {w w' : World} {B e size n : Nat} {v : Value} {xs : List Value} (h : w.ownsRow B e size v n xs) (hk : ∀ j, v.ownBlock = some j → w'.heap[j]? = w.heap[j]?) : w'.ownsRow B e size v n xs := by
  refine ⟨h.1, ?_⟩
  rcases h.2 with hn | ⟨g, cap, cur, rfl, hb, hgg, rest⟩
  · exact .inl hn
  · exact .inr ⟨g, cap, cur, rfl, hb, (hk g rfl).trans hgg, rest⟩
/-- A writer at block g, its row told. -/
structure OutAt (W : World) (g : Nat) (bs : List Int) (v : Value) : Prop where
  blk : Blk W g 53 #[v]
  own : W.ownsRow 0 5 1 v bs.length (u8C bs)
  ne : v.ownBlock ≠ some g
theorem OutAt.below {w w' : World} {g : Nat} {bs : List Int} {v : Value} (h : OutAt w g bs v) (hb : Below w.heap.size w w') : OutAt w' g bs v :=
  ⟨h.blk.below hb h.blk.lt, own_at h.own (fun j hj => hb.block j (h.own.lt j hj).2), h.ne⟩
/-- A number's low bytes, the highest first. -/
def beI (n : Int) (size : Nat) : List Int := (List.range size).map fun i => n / 256 ^ (size - 1 - i) % 256
theorem beI_len (n : Int) (size : Nat) : (beI n size).length = size := by simp [beI]
theorem beI_succ (n : Int) (size m : Nat) (h : m < size) : (beI n size).take (size - m) = (beI n size).take (size - (m + 1)) ++ [n / 256 ^ m % 256] := by
  have e : size - m = (size - (m + 1)) + 1 := by omega
  rw [e, List.take_add_one]
  congr 1
  unfold beI
  rw [List.getElem?_map, List.getElem?_range (by omega)]
  have e2 : size - 1 - (size - (m + 1)) = m := by omega
  simp [e2]

/-- Behind an append of xs and its store. -/
theorem OutAt.push {wr wq w1 : World} {g g2 cap m : Nat} {bs1 xs : List Int} {v' : Value} (H : OutAt wr g bs1 v') (Bq : Below wr.heap.size wr wq) (own1 : w1.ownsRow 0 5 1 (.slice (some ⟨g2, 0, none⟩) (bs1.length + m) cap) (bs1.length + m) (u8C bs1 ++ u8C xs)) (hm : xs.length = m)
    (hgrow : wq.grownBy w1 v'.ownBlock) (hat : v'.ownBlock = some g2 ∨ g2 = wq.heap.size) :
    OutAt (w1.setCell ⟨g, 0, none⟩ (.slice (some ⟨g2, 0, none⟩) (bs1.length + m) cap)) g (bs1 ++ xs) (.slice (some ⟨g2, 0, none⟩) (bs1.length + m) cap) ∧ MovedP wr (w1.setCell ⟨g, 0, none⟩ (.slice (some ⟨g2, 0, none⟩) (bs1.length + m) cap)) g v' (.slice (some ⟨g2, 0, none⟩) (bs1.length + m) cap) := by
  have hg2 : g2 ≠ g := by
    intro he
    subst he
    rcases hat with h | h
    · exact H.ne h
    · have := H.blk.lt; have := Bq.size; omega
  have sq := Bq.size
  have kq := H.blk.below Bq H.blk.lt
  have k1 : Blk w1 g 53 #[v'] := Eq.trans (hgrow.block g kq.lt (Ne.symm H.ne)) kq
  have k2 := k1.set_ 0 (.slice (some ⟨g2, 0, none⟩) (bs1.length + m) cap)
  refine ⟨⟨k2, ?_, fun he => ?_⟩, ⟨((Bq.mono (Nat.zero_le _)).grown hgrow (Nat.zero_le _) (fun j hj => Nat.zero_le _)).setCell (Nat.zero_le _) _, fun z hz h1 h2 => ?_, fun z hz => ?_⟩⟩
  · rw [u8C_append, List.length_append, hm]
    exact own_at own1 (fun j hj => by
      have hj' : some g2 = some j := hj
      injection hj' with hj2
      subst hj2
      exact Below.heap_setCell _ ⟨g, 0, none⟩ _ g2 hg2)
  · injection he with he2
    exact hg2 he2
  · have e2 := Below.heap_setCell w1 ⟨g, 0, none⟩ (.slice (some ⟨g2, 0, none⟩) (bs1.length + m) cap) z h1
    exact e2.trans ((hgrow.block z (by omega) (fun e => h2 e.symm)).trans (Bq.block z hz))
  · injection hz with hz
    subst hz
    rcases hat with h | h
    · exact .inl h
    · right
      show wr.heap.size ≤ g2
      omega

set_option maxHeartbeats 4000000 in
theorem pen_put (g : Nat) (bs : List Int) (v : Value) (n : Int) (size : Nat) (w : World) (h : OutAt w g bs v) (hn : 0 ≤ n ∧ n < 4294967296) (hs : size ≤ 4) (hl : bs.length ≤ 100000) :
    Calls Tryd.prog 45 #[.pointer (some ⟨g, 0, none⟩), .int .u32 n, .int .i64 (size : Int)] w fun e w' => e = .returned (.tuple #[]) ∧ ∃ v', OutAt w' g (bs ++ beI n size) v' ∧ MovedP w w' g v v' := by
  obtain ⟨i0, hi0, hz0, hz1, hz2⟩ := info_parts (show (Tryd.prog.info? 5).map (fun i => (i.zero, i.size, i.bytes)) = some (some (.int .u8 0), 1, 1) by kernel_rfl)
  have wz : IntKind.i64.wrap ((size : Int) - 1) = (size : Int) - 1 := IntWalk.i64_in _ (by omega)
  go_enter Tryd.func45, Tryd.ntmps45
  go_wp2_with fail
  go_loopw [6] (fun k wr => ∃ (m : Nat) (v' : Value), m ≤ size ∧ k = .int .i64 ((m : Int) - 1) ∧ OutAt wr g (bs ++ (beI n size).take (size - m)) v' ∧ MovedP w wr g v v') (fun k _ => (intOf k + 1).toNat)
  case atStart => exact ⟨size, v, Nat.le_refl _, rfl, by rw [Nat.sub_self, List.take_zero, List.append_nil]; exact h, MovedP.refl _ _ _⟩
  case round =>
    obtain ⟨m, v', hm, rfl, H, M⟩ := hrel
    match m, hm, H with
    | 0, hm, H =>
      have hall : (beI n size).take (size - 0) = beI n size := List.take_of_length_le (by rw [beI_len]; omega)
      rw [hall] at H
      go_wp2_with fail
      go_end0
      exact ⟨rfl, v', H, M⟩
    | k + 1, hm, H =>
      have hsx := Lib.hid (beI_succ n size k (by omega))
      have hk := H.blk
      have own := H.own
      have hlen : (bs ++ (beI n size).take (size - (k + 1))).length ≤ 100004 := by rw [List.length_append, List.length_take, beI_len]; omega
      obtain ⟨bs1, hbs1⟩ : ∃ b, bs ++ (beI n size).take (size - (k + 1)) = b := ⟨_, rfl⟩
      rw [hbs1] at H own hlen
      obtain ⟨L1, hL1⟩ : ∃ L, bs1.length = L := ⟨_, rfl⟩
      rw [hL1] at own hlen
      have HB := Lib.hid hbs1
      have HL1 := Lib.hid hL1
      have wk : IntKind.i64.wrap ((k : Int) - 1) = (k : Int) - 1 := IntWalk.i64_in _ (by omega)
      have e0 : ((k + 1 : Nat) : Int) - 1 = (k : Int) := by omega
      rw [e0]
      have ek : (0 : Int) ≤ (k : Int) := by omega
      have w8 : IntKind.i64.wrap (8 * (k : Int)) = ((8 * k : Nat) : Int) := by rw [IntWalk.i64_in _ (by omega)]; omega
      obtain ⟨x, hx⟩ : ∃ x, n / 256 ^ k % 256 = x := ⟨_, rfl⟩
      have hxw : IntKind.u8.wrap (n / 2 ^ (8 * (k : Int)).toNat) = x := by
        have e1 : (8 * (k : Int)).toNat = 8 * k := by omega
        rw [e1, Int.pow_mul]
        rw [← hx]
        simp [IntKind.wrap, IntKind.signed, IntKind.bits]
      rw [hx] at hsx
      have hne := H.ne
      have hgl := hk.lt
      have own2 : ((wr.alloc (.cells #[.int .u8 x] 5)).drew).ownsRow 0 5 1 v' L1 (u8C bs1) := own_at own (fun j hj => (((Below.refl _ wr).alloc (Nat.le_refl _) _).drew).block j (own.lt j hj).2)
      have kb : Blk (wr.alloc (.cells #[.int .u8 x] 5)).drew wr.heap.size 5 #[.int .u8 x] := (Blk.new wr _ _).drew
      have hnew : ∀ j u, [Value.int .u8 x][j]? = some u → (wr.alloc (.cells #[.int .u8 x] 5)).drew.cell? ((⟨wr.heap.size, 0, none⟩ : Addr).add j) = some u := World.news_of_block kb
      have k2 : Blk (wr.alloc (.cells #[.int .u8 x] 5)).drew g 53 #[v'] := (hk.alloc _).drew
      have sz : (wr.alloc (.cells #[.int .u8 x] 5)).drew.heap.size = wr.heap.size + 1 := by simp
      have ck := hk.cell
      have fk := hk.frozen
      simp at ck
      clear e0 hL1 hbs1 hx
      go_upto_region 3 with fail
      go_region_law (refine step_append_lies _ rfl (.tmp 17) (.tmp 23) 51 rfl 0 5 i0 (.int .u8 0) 1 1 Tryd.underlying51 hi0 hz0 hz1 hz2 rfl (by decide) v' L1 (u8C bs1) (by simp [Act.eval, Act.put]) own2 ⟨wr.heap.size, 0, none⟩ 1 1 [.int .u8 x] (by simp [Act.eval, Act.put]) rfl hnew (by simp [Value.oneCell']) (by omega) (by rw [maxLen_eq]; omega) (by omega) (Nat.zero_le _) _ rfl ?_; intro g2 cap w1 own1 hgrow hat hlt1; have k1 : Blk w1 g 53 #[v'] := Eq.trans (hgrow.block g k2.lt (Ne.symm hne)) k2; have ck1 := k1.cell; have fk1 := k1.frozen; simp at ck1)
      all_goals
        have Bq : Below wr.heap.size wr (wr.alloc (.cells #[.int .u8 x] 5)).drew := ((Below.refl _ wr).alloc (Nat.le_refl _) _).drew
        have own3 := own1
        rw [← HL1.out] at own3
        obtain ⟨P1, P2⟩ := H.push (xs := [x]) (m := 1) Bq own3 rfl hgrow hat
        rw [HL1.out, ← HB.out, List.append_assoc, ← hsx.out] at P1
        rw [HL1.out] at P2
        clear own1 own3 own own2 hnew k2 kb hgrow k1 ck1 fk1 ck fk hk
        generalize w1.setCell ⟨g, 0, none⟩ (.slice (some ⟨g2, 0, none⟩) (L1 + 1) cap) = wz at *
        have M2 := M.trans P2
        clear M P2 H sz
        go_wp2_with fail
        go_roundw
        case rel => exact ⟨k, _, by omega, rfl, P1, M2⟩
        case measure => simp only [intOf]; omega
end Go.Proofs.YtbibgffgljojgaaDoor
