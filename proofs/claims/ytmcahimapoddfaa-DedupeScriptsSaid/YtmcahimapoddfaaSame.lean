/- The walk of sameProds: it says whether two lists of producers are one. Conditions: both are readable. -/
import Derived.Test.YtmcahimapoddfaaMem
import Derived.Laws.StructEq
namespace Go.Proofs.Ytmcahimapoddfaa
open Go.RowKit Go.Maps

theorem guard67 : Try.prog.eqGuardType Try.prog.depth 67 = false := by kernel_rfl
theorem eq67 (p q : Pr) (w : World) : Sem.run Try.prog (Op.equalIn 10000 67 (.agg #[.int .i64 p.pid, .int .i64 p.seq, .int .i64 p.off]) (.agg #[.int .i64 q.pid, .int .i64 q.seq, .int .i64 q.off])) w = .ok (decide (p = q)) w := by
  have u2 := Try.underlying2
  have a2 := Try.isAgg2
  have z2 := Try.sizeOf2
  have hS : Try.prog.underlying 67 = some (.struct (Try.prog.fieldsOf 67)) := by kernel_rfl
  have hp : Try.prog.stoodInHeld 67 = false := by kernel_rfl
  rw [show (10000 : Nat) = 9999 + 1 from rfl, run_equalIn_agg w 9999 67 _ _ hS hp]
  simp only [Program.fieldsOf, Try.underlying67]
  go_simp
  obtain ⟨a, b, c⟩ := p
  obtain ⟨a', b', c'⟩ := q
  by_cases h1 : a = a' <;> by_cases h2 : b = b' <;> by_cases h3 : c = c' <;> simp [h1, h2, h3]
theorem neq67 (p q : Pr) (w : World) : Sem.run Try.prog (binOp .neq 67 (.agg #[.int .i64 p.pid, .int .i64 p.seq, .int .i64 p.off]) (.agg #[.int .i64 q.pid, .int .i64 q.seq, .int .i64 q.off])) w = .ok (.bool (!decide (p = q))) w := by
  rw [run_neq_struct, eq67]
  rfl

set_option maxRecDepth 100000 in
set_option maxHeartbeats 4000000 in
theorem same_any (A1 A2 : Option Addr) (ps qs : List Pr) (c1 c2 : Nat) (w : World) (B1 B2 : Nat) (hc1 : ps.length ≤ c1 ∧ c1 ≤ maxLen) (hc2 : qs.length ≤ c2 ∧ c2 ≤ maxLen) (hp : ProdsAt w B1 A1 ps) (hq : ProdsAt w B2 A2 qs) :
    Calls Try.prog 12 #[.slice A1 ps.length c1, .slice A2 qs.length c2] w fun e w' => e = .returned (.bool (decide (ps = qs))) ∧ ∃ n, w.drewN n = w' := by
  have hcm1 := hc1.2
  have hcm2 := hc2.2
  have hl1 := hc1.1
  have hl2 := hc2.1
  unfold maxLen at hcm1 hcm2
  have Hp := Lib.hid hp
  have Hq := Lib.hid hq
  clear hp hq hc1 hc2
  by_cases hlen : ps.length = qs.length
  · have hli : ((ps.length : Int) != qs.length) = false := by simp [hlen]
    have hres : ∀ k, k < ps.length → ps[k]? ≠ qs[k]? → ps ≠ qs := fun k _ h e => h (by rw [e])
    have Hlen := Lib.hid hlen
    have Hres := Lib.hid hres
    clear hlen hres
    go_enter Try.func12, Try.ntmps12
    go_wp2
    go_loopg [5] ps.length (fun g i wr => ∃ k : Nat, g + k = ps.length ∧ i = .int .i64 (k : Nat) ∧ (∀ j, j < k → ps[j]? = qs[j]?) ∧ ∃ n, w.drewN n = wr)
    case atStart => exact ⟨0, by omega, rfl, fun j h => absurd h (by omega), 0, rfl⟩
    case round =>
      obtain ⟨k, hk, rfl, hok, n, hwr⟩ := hrel
      have hcw : ∀ a, wr.cell? a = w.cell? a := fun a => by rw [← hwr]; rfl
      have Hwr := Lib.hid hwr
      clear hwr
      have Hk := Lib.hid hk
      have Hok := Lib.hid hok
      clear hok
      by_cases hkl : k < ps.length
      · have hki : (k : Int) < ps.length := by omega
        have hkq : k < qs.length := by have := Hlen.out; omega
        have hkqi : (k : Int) < qs.length := by omega
        obtain ⟨b1, o1, he1, _, hr1⟩ := Hp.out (by omega)
        obtain ⟨b2, o2, he2, _, hr2⟩ := Hq.out (by omega)
        subst he1
        subst he2
        obtain ⟨p, hp⟩ : ∃ p, p = ps[k] := ⟨_, rfl⟩
        obtain ⟨q, hq⟩ : ∃ q, q = qs[k] := ⟨_, rfl⟩
        have hpk : ps[k]? = some p := by rw [hp]; exact List.getElem?_eq_getElem hkl
        have hqk : qs[k]? = some q := by rw [hq]; exact List.getElem?_eq_getElem hkq
        obtain ⟨x0, x1, x2⟩ := hr1 k p hpk
        obtain ⟨y0, y1, y2⟩ := hr2 k q hqk
        have hne : ∀ W, Sem.run Try.prog (binOp .neq 67 (.agg #[.int .i64 p.pid, .int .i64 p.seq, .int .i64 p.off]) (.agg #[.int .i64 q.pid, .int .i64 q.seq, .int .i64 q.off])) W = .ok (.bool (!decide (p = q))) W := fun W => neq67 p q W
        have x0' : wr.cell? ⟨b1, o1 + k * 3, none⟩ = some (.int .i64 p.pid) := (hcw _).trans x0
        have x1' : wr.cell? ⟨b1, o1 + k * 3 + 1, none⟩ = some (.int .i64 p.seq) := (hcw _).trans x1
        have x2' : wr.cell? ⟨b1, o1 + k * 3 + 2, none⟩ = some (.int .i64 p.off) := (hcw _).trans x2
        have y0' : wr.cell? ⟨b2, o2 + k * 3, none⟩ = some (.int .i64 q.pid) := (hcw _).trans y0
        have y1' : wr.cell? ⟨b2, o2 + k * 3 + 1, none⟩ = some (.int .i64 q.seq) := (hcw _).trans y1
        have y2' : wr.cell? ⟨b2, o2 + k * 3 + 2, none⟩ = some (.int .i64 q.off) := (hcw _).trans y2
        have Hpk := Lib.hid hpk
        have Hqk := Lib.hid hqk
        obtain ⟨ne, hnee⟩ : ∃ ne, ne = !decide (p = q) := ⟨_, rfl⟩
        rw [← hnee] at hne
        have hgd := guard67
        have Hne := Lib.hid hnee
        clear hcw hp hq hpk hqk hr1 hr2 x0 x1 x2 y0 y1 y2 hnee hk
        go_upto_region 6 with fail
        go_cut [25] (fun v wx => v = .bool ne ∧ ∃ j, wr.drewN j = wx)
        case first =>
          go_quiet (fail)
          go_wp2
          go_meet
          case rel => exact ⟨rfl, _, rfl⟩
        case rest =>
          obtain ⟨rfl, j, rfl⟩ := hcut
          by_cases hpq : p = q
          · have hnf : ne = false := by rw [Hne.out, decide_eq_true hpq]; rfl
            have Hpq := Lib.hid hpq
            clear Hne hpq
            subst hnf
            go_wp2
            have hk := Hk.out
            go_roundg (gk - 1)
            case measure => omega
            case rel => exact ⟨k + 1, by omega, by go_num, fun i hi => by
              rcases Nat.lt_or_ge i k with h | h
              · exact Hok.out i h
              · obtain rfl : i = k := by omega
                rw [Hpk.out, Hqk.out, Hpq.out], n + j, by rw [← Hwr.out, World.drewN_drewN]⟩
          · have hnf : ne = true := by rw [Hne.out, decide_eq_false hpq]; rfl
            have Hpq := Lib.hid hpq
            clear Hne hpq
            subst hnf
            go_wp2
            go_ret
            have hd : ps ≠ qs := Hres.out k hkl (by rw [Hpk.out, Hqk.out]; intro e; exact Hpq.out (by injection e))
            exact ⟨by rw [decide_eq_false hd]; rfl, n + j, by rw [← Hwr.out, World.drewN_drewN]⟩
      · have hki : ¬ (k : Int) < ps.length := by omega
        have he : ps = qs := List.ext_getElem? fun i => by
          rcases Nat.lt_or_ge i k with h | h
          · exact Hok.out i h
          · rw [List.getElem?_eq_none (by omega), List.getElem?_eq_none (by have := Hlen.out; omega)]
        have He := Lib.hid he
        clear he hk hcw
        go_wp2
        go_ret
        exact ⟨by rw [decide_eq_true He.out]; rfl, n, Hwr.out⟩
  · have hli : ((ps.length : Int) != qs.length) = true := by simp; omega
    have hd : ps ≠ qs := fun e => hlen (by rw [e])
    have Hd := Lib.hid hd
    clear hd hlen
    go_enter Try.func12, Try.ntmps12
    go_wp2
    go_ret
    exact ⟨by rw [decide_eq_false Hd.out]; rfl, 0, rfl⟩
end Go.Proofs.Ytmcahimapoddfaa
