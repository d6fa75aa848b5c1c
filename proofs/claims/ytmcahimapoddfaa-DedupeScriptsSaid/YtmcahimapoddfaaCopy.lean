/- The walks of maps.Copy into an empty map, and of Clone. Conditions: the table is one of at most 64. (After the kit's contract of maps.Copy at elements of one cell.) -/
import Derived.Test.YtmcahimapoddfaaNote
import Derived.Maps.RangeWalk
import Derived.Laws.IdiomRangeMap
namespace Go.Proofs.Ytmcahimapoddfaa
open Go.RowKit Go.Maps

set_option maxHeartbeats 4000000 in
set_option maxRecDepth 100000 in
theorem copy_any (bd bs : Nat) (l : List Pr) (w : World) (hd : Tab w bd []) (hs : Tab w bs l) (hne : bd ≠ bs) (h64 : l.length ≤ 64) :
    Calls Try.prog 39 #[.map (some bd), .map (some bs)] w fun e w' => e = .returned (.tuple #[]) ∧ Tab w' bd l ∧ w.grownBy w' (some bd) := by
  have hbd := hd.lt
  have hbs := hs.lt
  have hsz := size_tab l
  unfold Tab at hd hs
  go_enter Try.func39, Try.ntmps39
  go_wp2_with (first
    | (at_range; refine wpList_range_own _ rfl _ 73 rfl 2 67 K2 Try.underlying73 R3 bs l.length _ rfl hs ?_; intro w0 hrg0 hg0 hs0)
    | go_in)
  go_frame
  go_loopw [8] (fun _ wr => ∃ (left : Lit → Bool) (cnt : Nat) (Dout : DataW Unit), wr.ranges Try.prog 2 R3 bs w.heap.size l.length (tabD l) left cnt ∧ cnt ≤ l.length ∧
      wr.ownsMap Try.prog 2 R3 bd (l.length - cnt) Dout ∧ Agree Dout (tabD l) left ∧ w.grownBy wr (some bd))
    (fun _ wr => wr.rangeLeft bs w.heap.size)
  case atStart =>
    rw [hsz] at hrg0
    exact ⟨_, _, tabD [], hrg0, Nat.le_refl _, (World.ownsMap.kept hd hg0 (by simp)).mono (by simp), agree_start (tabD l), hg0.but _⟩
  case round =>
    obtain ⟨left, cnt, Dout, hrg, hcs, hout, hM, hgw⟩ := hrel
    go_wp2_with (first
      | (at_next; refine wpList_next_ranges (α := Int) (β := Pr) _ rfl _ rfl 2 K2 R3 (fun x => .int .i64 x) (fun p => .agg #[.int .i64 p.pid, .int .i64 p.seq, .int .i64 p.off]) (fun key kl h => by obtain ⟨x, hx, _⟩ := Maps.keyOf_i64 Try.underlying2 h; exact ⟨x, hx⟩) (fun v y h => by obtain ⟨p, hp, _⟩ := R3_inv h; exact ⟨p, hp⟩) bs w.heap.size l.length _ _ _ rfl hrg ?_ ?_)
      | go_in)
    · intro hc0 hl0
      go_wp2
      go_end0
      subst hc0
      have e := agree_end hM hl0 (World.ownsMap.canon hout K2) (World.ownsMap.canon hs K2)
      subst e
      exact ⟨rfl, Tab.of hout, hgw⟩
    · intro x c kl yd yp w1 cnt1 hkey hlx hv hat hrg1 hlt hg1 hs1 hen
      have hout1 := (hout.kept hg1 (fun e => by have := Option.some.inj e; omega)).alloc (.cells #[.int .i64 c.pid, .int .i64 c.seq, .int .i64 c.off] 67)
      have hrg1' := hrg1.alloc (.cells #[.int .i64 c.pid, .int .i64 c.seq, .int .i64 c.off] 67)
      go_wp2_with (first
        | (at_mapUpdate; refine wpList_mapUpdate_own _ rfl _ _ _ 73 rfl 2 67 K2 Try.underlying73 R3 bd _ _ rfl hout1 (by unfold maxLen; omega) _ _ _ rfl rfl hkey yd yp hv ?_; intro w2 hout2 hg2; go_frame)
        | go_in)
      have hrg2 := hrg1'.kept hg2 (fun e => hne (Option.some.inj e).symm) (fun e => by have := Option.some.inj e; omega)
      go_roundw
      case rel =>
        exact ⟨_, cnt1, _, hrg2, by omega, hout2.mono (by omega), agree_step hM hout.isMap (K2.key hkey) hat, ((hgw.andThen hg1 (fun j hj => .inl (by cases hj; exact Nat.le_refl _))).andThen (World.grownBy_alloc _ _ none) (fun j hj => by cases hj)).andThen hg2 (fun j hj => .inr hj)⟩
      case measure => rw [hrg2.left_eq, hrg.left_eq]; exact hlt

set_option maxHeartbeats 4000000 in
set_option maxRecDepth 100000 in
theorem clone_any (B b m : Nat) (l : List Pr) (w : World) (ht : TabAt w B b m l) (h64 : l.length ≤ 64) :
    Calls Try.prog 22 #[.pointer (some ⟨b, 0, none⟩)] w fun e w' => e = .returned (.pointer (some ⟨w.heap.size + 1, 0, none⟩)) ∧ TabAt w' w.heap.size (w.heap.size + 1) w.heap.size l ∧ Below w.heap.size w w' := by
  have hmm := @run_makeMap Try.prog
  have hb0 : Below w.heap.size w ((w.alloc (.map #[] 0)).alloc (.cells #[.map (some w.heap.size)] 75)) := ((Below.refl _ _).alloc (Nat.le_refl _) _).alloc (by simp) _
  have hd : Tab ((w.alloc (.map #[] 0)).alloc (.cells #[.map (some w.heap.size)] 75)) w.heap.size [] := (Tab.made w).alloc _
  have ht' : TabAt ((w.alloc (.map #[] 0)).alloc (.cells #[.map (some w.heap.size)] 75)) B b m l := ht.below hb0 (Nat.le_refl _)
  have e : (w.alloc (.map #[] 0)).heap.size = w.heap.size + 1 := by simp
  have hc : Blk ((w.alloc (.map #[] 0)).alloc (.cells #[.map (some w.heap.size)] 75)) (w.heap.size + 1) 75 #[.map (some w.heap.size)] := by
    have := Blk.new (w.alloc (.map #[] 0)) 75 #[.map (some w.heap.size)]
    rwa [e] at this
  have hmw := ht.tab.lt
  have hbw := ht.cell.lt
  go_enter Try.func22, Try.ntmps22
  go_upto_region 4 with fail
  generalize (w.alloc (.map #[] 0)).alloc (.cells #[.map (some w.heap.size)] 75) = w2 at *
  have t1 := ht'.cell.cell 0
  have t2 := hc.cell 0
  simp only [List.getElem?_toArray, List.getElem?_cons_zero] at t1 t2
  have Hd := Lib.hid hd
  have Ht := Lib.hid ht'
  have Hc := Lib.hid hc
  have Hb0 := Lib.hid hb0
  clear hd ht' hc hb0 hmm e ht
  have hne : ¬ w.heap.size = m := by omega
  go_cut [] (fun wx => TabAt wx w.heap.size (w.heap.size + 1) w.heap.size l ∧ Below w.heap.size w wx)
  case first =>
    go_region_with (go_at_call 39; refine (copy_any w.heap.size m l _ Hd.out.drew Ht.out.tab.drew hne h64).mono ?_; rintro e w3 ⟨rfl, h3, hg3⟩)
    all_goals (
      go_wp2
      go_meet
      (case rel => exact ⟨⟨(Hc.out.drew).grown hg3 (by intro e; injection e with e; omega), h3, by omega, Nat.le_refl _, by omega⟩, (Hb0.out.drew).grown hg3 Hb0.out.size (fun j hj => by injection hj with hj; omega)⟩))
  case rest =>
    obtain ⟨h1, h2⟩ := hcut
    have H1 := Lib.hid h1
    have H2 := Lib.hid h2
    clear h1 h2 t1 t2
    go_wp2
    go_ret
    exact ⟨rfl, H1.out, H2.out⟩
end Go.Proofs.Ytmcahimapoddfaa
