/- The law WholeDisks. No condition. -/
import Derived.Test.YtkpmohbcejbagaaLd0
import Derived.Test.YtkpmohbcejbagaaAw
import Derived.Deep.DeepCutAuto
import Derived.Deep.CutBlock
import Derived.Deep.RegionHeld3
namespace Go.Proofs.Ytkpmohbcejbagaa
open Go.RowKit

set_option linter.unusedSimpArgs false in
set_option maxRecDepth 100000 in
set_option maxHeartbeats 40000000 in
theorem law_any (w : World) (a0 : Option Addr) (c0 : Nat) (l : List Dd) (hl : Rd w a0 (dds l)) (hlc : l.length ≤ c0) (hc0 : c0 ≤ maxLen) :
    Calls Try.prog 3 #[.slice a0 l.length c0] w fun e w' => e = .returned (.bool true) ∧ Below w.heap.size w w' := by
  unfold maxLen at hc0
  replace hl := Lib.hid hl
  obtain ⟨i0, hi, hz0, hz1, hz2⟩ := info_parts Try.infoU8
  replace hi := Lib.hid hi; replace hz0 := Lib.hid hz0; replace hz1 := Lib.hid hz1; replace hz2 := Lib.hid hz2
  go_enter Try.func3, Try.ntmps3
  go_wp2_with fail
  refine (dnew_any _ 64 (by omega)).mono ?_
  rintro e w1 ⟨d, rfl, hb1, hd1⟩
  go_wp2
  go_loopw [5, 6, 7] (fun b s i wr => ∃ (k : Nat) (ad : Option Addr) (cd : Nat) (ab : Option Addr) (cb : Nat) (bs : List UInt8) (sn : Nat),
      k ≤ l.length ∧ i = .int .i64 k ∧ b = .slice ab bs.length cb ∧ s = .int .i64 sn ∧ Inv w wr w.heap.size d ad cd ab cb bs sn) (fun _ _ i _ => l.length - (intOf i).toNat)
  case atStart =>
    exact ⟨0, none, 0, none, 0, [], 0, by omega, rfl, rfl, rfl, hd1, Own.nil _ _ _ _, by simp [blk], by simp [blk], by simp, by simp, hb1⟩
  case round =>
    obtain ⟨k, ad, cd, ab, cb, bs, sn, hk, rfl, rfl, rfl, hinv⟩ := hrel
    have hbel := hinv.below
    have hle := hinv.le
    have hmost := hinv.most
    by_cases hlt : k < l.length ∧ k < 40
    · obtain ⟨hlt, h40⟩ := hlt
      have hd40 : decide ((k : Int) < 40) = true := by simp; omega
      have hdlt : decide ((k : Int) < (l.length : Int)) = true := by simp; omega
      obtain ⟨b, off, rfl, hb, g0, g1, g2, g3⟩ := dd_cells hl.out k hlt
      have e0 := (hbel.cell (p := ⟨b, off + k * 4, none⟩) hb).trans g0
      have e1 := (hbel.cell (p := ⟨b, off + k * 4 + 1, none⟩) hb).trans g1
      have e2 := (hbel.cell (p := ⟨b, off + k * 4 + 2, none⟩) hb).trans g2
      have e3 := (hbel.cell (p := ⟨b, off + k * 4 + 3, none⟩) hb).trans g3
      clear g0 g1 g2 g3
      obtain ⟨x, hx⟩ : ∃ x, x = l[k] := ⟨_, rfl⟩
      rw [← hx] at e0 e1 e2 e3
      replace hx := Lib.hid hx
      have xk := x.k.toNat_lt
      have xa := x.a.toNat_lt
      obtain ⟨n, hn⟩ : ∃ n, n = x.a.toNat := ⟨_, rfl⟩
      obtain ⟨kk, hkk⟩ : ∃ kk, kk = x.k.toNat := ⟨_, rfl⟩
      obtain ⟨m, hmk⟩ : ∃ m, (kk : Int) % 6 = m := ⟨_, rfl⟩
      rw [← hn] at e1 xa
      rw [← hkk] at e0 xk
      have hm0 : 0 ≤ m := by omega
      have hmt : (kk : Int).tmod 6 = m := by rw [Int.tmod_eq_emod_of_nonneg (by omega)]; exact hmk
      have hm6 : m < 6 := by omega
      have hn8 : n < 256 := by omega
      clear hkk hn
      go_upto_block 2 with (fail)
      replace hmk := Lib.hid hmk; replace hmt := Lib.hid hmt
      go_cut [4, 5, 6, 9] (fun e b s want wx => ∃ (er : Int) (ad : Option Addr) (cd : Nat) (ab : Option Addr) (cb : Nat) (bs : List UInt8) (sn : Nat),
        e = .int .i64 er ∧ want = .int .i64 er ∧ b = .slice ab bs.length cb ∧ s = .int .i64 sn ∧ Inv w wx w.heap.size d ad cd ab cb bs sn)
      case first =>
        rcases (show m = 3 ∨ m = 4 ∨ m = 5 ∨ m < 3 from by omega) with rfl | rfl | rfl | hm3
        · go_wp2_with (go_at_call 6; refine (dsync_any hinv.disk).mono ?_; intro e w2 hr; obtain ⟨a2, c2, hinv2⟩ := inv_ret hinv.disk hr hinv.own hinv.ne hinv.ap (Nat.le_refl _) hmost hbel hinv.base; obtain ⟨rfl, _⟩ := hr)
          go_meet
          exact ⟨0, a2, c2, ab, cb, bs, bs.length, rfl, rfl, rfl, rfl, hinv2⟩
        · obtain ⟨q, hq⟩ : ∃ q : Nat, (n : Int) % 20 = q := ⟨n % 20, by omega⟩
          have hqt : (n : Int).tmod 20 = q := by rw [Int.tmod_eq_emod_of_nonneg (by omega)]; exact hq
          have hq20 : q < 20 := by omega
          have hown := hinv.own.2.1
          obtain ⟨r, hr⟩ : ∃ r, r = min bs.length (sn + q) := ⟨_, rfl⟩
          have hrl : r ≤ bs.length := by omega
          have hot := own_take hinv.own hrl
          have hcr := dcrash_any hinv.disk hle q (by omega) (by omega)
          rw [← hr] at hcr
          have hfin := fun e w2 (h : RetDisk wr w.heap.size d ad 0 (bs.take r) r 64 e w2) => inv_ret hinv.disk h hot hinv.ne hinv.ap (by rw [len_take hrl]; exact Nat.le_refl _) (by rw [len_take hrl]; omega) hbel hinv.base
          replace hcr := Lib.hid hcr; replace hfin := Lib.hid hfin; replace hot := Lib.hid hot
          rcases Nat.lt_or_ge (sn + q) bs.length with hlq | hlq
          rotate_left
          · obtain rfl : r = bs.length := by omega
            replace hr := Lib.hid hr
            have hlq' : (bs.length : Int) ≤ sn + q := by omega
            go_wp2_with (go_at_call 7; refine hcr.out.mono ?_; intro e w2 hr; obtain ⟨a2, c2, hinv2⟩ := hfin.out _ _ hr; obtain ⟨rfl, _⟩ := hr)
            go_meet
            exact ⟨0, a2, c2, ab, cb, bs.take bs.length, bs.length, rfl, rfl, by rw [len_take (Nat.le_refl _)], rfl, hinv2⟩
          · obtain rfl : r = sn + q := by omega
            replace hr := Lib.hid hr
            have hlq' : ¬ (bs.length : Int) ≤ sn + q := by omega
            have hlq'' : (sn : Int) + q < bs.length := by omega
            have hlq3 : (sn : Int) + q ≤ cb := by omega
            go_wp2_with (go_at_call 7; refine hcr.out.mono ?_; intro e w2 hr; obtain ⟨a2, c2, hinv2⟩ := hfin.out _ _ hr; obtain ⟨rfl, _⟩ := hr)
            go_meet
            exact ⟨0, a2, c2, ab, cb, bs.take (sn + q), sn + q, rfl, rfl, by rw [len_take (Nat.le_of_lt hlq)], by go_num, hinv2⟩
        · obtain ⟨p, hp⟩ : ∃ p : Nat, (n : Int) % 70 = p := ⟨n % 70, by omega⟩
          have hpt : (n : Int).tmod 70 = p := by rw [Int.tmod_eq_emod_of_nonneg (by omega)]; exact hp
          have hp70 : p < 70 := by omega
          have hown := hinv.own.2.1
          have hcut := dcut_any hinv.disk ((p : Int) - 2)
          by_cases hpb : (p : Int) - 2 < 0 ∨ (bs.length : Int) < (p : Int) - 2
          · have hcut' : Calls Try.prog 8 #[.pointer (some ⟨d, 0, none⟩), .int .i64 ((p : Int) - 2)] wr (RetDisk wr w.heap.size d ad 1 bs sn 64) :=
              hcut.mono fun e w' h => by
                rcases h with ⟨_, h⟩ | ⟨h, _⟩
                · exact h
                · omega
            have hfin := fun e w2 (h : RetDisk wr w.heap.size d ad 1 bs sn 64 e w2) => inv_ret hinv.disk h hinv.own hinv.ne hinv.ap hle hmost hbel hinv.base
            clear hcut
            replace hcut' := Lib.hid hcut'; replace hfin := Lib.hid hfin
            rcases hpb with hpb | hpb
            · go_wp2_with (go_at_call 8; refine hcut'.out.mono ?_; intro e w2 hr; obtain ⟨a2, c2, hinv2⟩ := hfin.out _ _ hr; obtain ⟨rfl, _⟩ := hr)
              go_meet
              exact ⟨1, a2, c2, ab, cb, bs, sn, rfl, rfl, rfl, rfl, hinv2⟩
            · go_wp2_with (go_at_call 8; refine hcut'.out.mono ?_; intro e w2 hr; obtain ⟨a2, c2, hinv2⟩ := hfin.out _ _ hr; obtain ⟨rfl, _⟩ := hr)
              go_meet
              exact ⟨1, a2, c2, ab, cb, bs, sn, rfl, rfl, rfl, rfl, hinv2⟩
          · obtain ⟨r, hr⟩ : ∃ r : Nat, (p : Int) - 2 = r := ⟨p - 2, by omega⟩
            have hrl : r ≤ bs.length := by omega
            have hrl' : (r : Int) ≤ bs.length := by omega
            rw [hr] at hcut
            have hcut' : Calls Try.prog 8 #[.pointer (some ⟨d, 0, none⟩), .int .i64 r] wr (RetDisk wr w.heap.size d ad 0 (bs.take r) r 64) :=
              hcut.mono fun e w' h => by
                rcases h with ⟨h, _⟩ | ⟨_, h⟩
                · omega
                · simpa using h
            have hot := own_take hinv.own hrl
            have hfin := fun e w2 (h : RetDisk wr w.heap.size d ad 0 (bs.take r) r 64 e w2) => inv_ret hinv.disk h hot hinv.ne hinv.ap (by rw [len_take hrl]; exact Nat.le_refl _) (by rw [len_take hrl]; omega) hbel hinv.base
            have hp2 : ¬ (p : Int) < 2 := by omega
            have hpr : (p : Int) = r + 2 := by omega
            obtain rfl : p = r + 2 := by omega
            clear hcut hpb hpr hr
            replace hcut' := Lib.hid hcut'; replace hfin := Lib.hid hfin; replace hot := Lib.hid hot
            go_wp2_with (go_at_call 8; refine hcut'.out.mono ?_; intro e w2 hr; obtain ⟨a2, c2, hinv2⟩ := hfin.out _ _ hr; obtain ⟨rfl, _⟩ := hr)
            go_meet
            exact ⟨0, a2, c2, ab, cb, bs.take r, r, rfl, rfl, by rw [len_take hrl], rfl, hinv2⟩
        · obtain ⟨q, hq⟩ : ∃ q : Nat, (n : Int) % 17 = q := ⟨n % 17, by omega⟩
          have hqt : (n : Int).tmod 17 = q := by rw [Int.tmod_eq_emod_of_nonneg (by omega)]; exact hq
          have hq17 : q < 17 := by omega
          rcases (show m = 0 ∨ m = 1 ∨ m = 2 from by omega) with rfl | rfl | rfl
          all_goals
            go_wp2
            obtain ⟨wo, rfl⟩ : ∃ wo : World, wo = wr := ⟨_, rfl⟩
            go_loopw [10, 68] (fun mo j wx => ∃ (t : Nat) (am : Option Addr) (cm : Nat), t ≤ q ∧ j = .int .i64 t ∧ mo = .slice am t cm ∧
              Own wx wo.heap.size 5 1 am t cm (u8s (List.replicate t x.b)) ∧ Below wo.heap.size wo wx) (fun _ j _ => q - (intOf j).toNat)
            case atStart => exact ⟨0, none, 0, by omega, rfl, rfl, Own.nil _ _ _ _, Below.refl _ _⟩
            case round =>
              obtain ⟨t, am, cm, htq, rfl, rfl, hmo, hbx⟩ := hrel
              by_cases htl : t < q
              · have hb2 : b < wo.heap.size := by have := hbel.size; omega
                have e2' := (hbx.cell (p := ⟨b, off + k * 4 + 2, none⟩) hb2).trans e2
                have hmo' := fun o => hmo.below (below_alloc wr o)
                have hsrc := fun (v : Value) (hv : v = .int .u8 x.b.toNat) => Src.ofRd (P := Try.prog) (wr.alloc (.cells #[v] 5)) (sz := 1) (n := 1) (c := 1) Try.underlying27 rfl (rd_new wr [v] 5) (by subst hv; simp [Value.oneCell'])
                have hsz := hbx.size
                replace hmo' := Lib.hid hmo'; replace hsrc := Lib.hid hsrc
                go_wp2_with (at_builtin; go_loud (with_reducible refine wpList_append_S _ rfl (.tmp 70) (.tmp 76) 27 27 rfl wo.heap.size 5 i0 _ 1 1 Try.underlying27 hi.out hz0.out hz1.out hz2.out rfl am t cm (u8s (List.replicate t x.b)) rfl (hmo'.out _) (.slice (some ⟨wr.heap.size, 0, none⟩) 1 1) 1 [.int .u8 x.b.toNat] rfl (hsrc.out _ rfl) ?_ ?_ ?_ ?_))
                case refine_1 => unfold maxLen; omega
                case refine_2 => omega
                case refine_3 => simp; omega
                intro a' c' w' hown' hgr' _ _
                rw [rep_step] at hown'
                have hbx' : Below wo.heap.size wo w' := (hbx.alloc hsz _).grown hgr' (by simp; omega) (fun g hg => hmo.base_le hg)
                clear hgr' hmo' hsrc hmo
                replace hown' := Lib.hid hown'
                go_wp2
                go_roundw
                case rel => exact ⟨t + 1, a', c', by omega, by go_num, rfl, hown'.out, hbx'⟩
                case measure => simp [intOf]; omega
              · obtain rfl : t = q := by omega
                have hinvx := hinv.of_below hbx
                have hmost' := hinvx.most
                by_cases hfit : (bs.length : Int) + t ≤ 64
                · have hnf : ¬ (64 : Int) < (bs.length : Int) + t := by omega
                  have hsrc := Src.ofRd (P := Try.prog) wr (sz := 1) (n := t) (c := cm) Try.underlying27 (by rw [u8s_length, rep_len, Nat.mul_one]) hmo.rd (u8s_one _)
                  replace hsrc := Lib.hid hsrc
                  go_wp2_with (with_reducible refine wpList_append_S _ rfl (.tmp 85) (.tmp 86) 27 27 rfl w.heap.size 5 i0 _ 1 1 Try.underlying27 hi.out hz0.out hz1.out hz2.out rfl ab bs.length cb (u8s bs) rfl hinvx.own (.slice am t cm) t (u8s (List.replicate t x.b)) rfl hsrc.out ?_ ?_ ?_ ?_)
                  case refine_1 => unfold maxLen; omega
                  case refine_2 => omega
                  case refine_3 => exact hinvx.base
                  intro ab1 cb1 w2 hown1 hgr1 hbl1 _
                  obtain ⟨hd2, hne2, hap2, hbel2, hB2⟩ := inv_plain hinvx hgr1 hbl1
                  have hrd2 : Rd w2 am (u8s (List.replicate t x.b)) := by
                    rcases hmo.rd with h | ⟨g, o, ha, hg, hr⟩
                    · exact .inl h
                    · refine .inr ⟨g, o, ha, Nat.lt_of_lt_of_le hg hgr1.size, fun j v hv => ?_⟩
                      have hge := hmo.base_le (b := g) (by rw [ha]; rfl)
                      rw [World.cell?_of_block (hgr1.block g hg (fun e => by have := hinv.own.lt e.symm; omega))]
                      exact hr j v hv
                  rw [← u8s_append] at hown1
                  have hlen1 : (bs ++ List.replicate t x.b).length = bs.length + t := by rw [List.length_append, rep_len]
                  have hown2 : Own w2 w.heap.size 5 1 ab1 (bs ++ List.replicate t x.b).length cb1 (u8s (bs ++ List.replicate t x.b)) := by rw [hlen1]; exact hown1
                  have hcall := dappend_any hd2 (by omega) hmost' am cm (List.replicate t x.b) hrd2 (by rw [rep_len]; omega) hB2
                  rw [rep_len] at hcall
                  have hcall' : Calls Try.prog 5 #[.pointer (some ⟨d, 0, none⟩), .slice am t cm] w2 (RetDisk w2 w.heap.size d ad 0 (bs ++ List.replicate t x.b) sn 64) :=
                    hcall.mono fun e w' h => by
                      rcases h with ⟨h, _⟩ | ⟨_, h⟩
                      · omega
                      · exact h
                  have hfin := fun e w3 (h : RetDisk w2 w.heap.size d ad 0 (bs ++ List.replicate t x.b) sn 64 e w3) => inv_ret hd2 h hown2 hne2 hap2 (by rw [hlen1]; omega) (by rw [hlen1]; omega) hbel2 hB2
                  replace hcall' := Lib.hid hcall'; replace hfin := Lib.hid hfin; replace hlen1 := Lib.hid hlen1
                  clear hcall hown1 hown2 hgr1 hbl1 hd2 hne2 hap2 hrd2 hsrc
                  go_wp2_with (go_at_call 5; refine hcall'.out.mono ?_; intro e w2 hr; obtain ⟨a2, c2, hinv2⟩ := hfin.out _ _ hr; obtain ⟨rfl, _⟩ := hr)
                  go_meet
                  exact ⟨0, a2, c2, ab1, cb1, bs ++ List.replicate t x.b, sn, rfl, rfl, by rw [hlen1.out], rfl, hinv2⟩
                · have hnf : (64 : Int) < (bs.length : Int) + t := by omega
                  have hcall := dappend_any hinvx.disk (by omega) hmost' am cm (List.replicate t x.b) hmo.rd (by rw [rep_len]; omega) hinvx.base
                  rw [rep_len] at hcall
                  have hcall' : Calls Try.prog 5 #[.pointer (some ⟨d, 0, none⟩), .slice am t cm] wr (RetDisk wr w.heap.size d ad 12 bs sn 64) :=
                    hcall.mono fun e w' h => by
                      rcases h with ⟨_, h⟩ | ⟨h, _⟩
                      · exact h
                      · omega
                  have hfin := fun e w3 (h : RetDisk wr w.heap.size d ad 12 bs sn 64 e w3) => inv_ret hinvx.disk h hinvx.own hinvx.ne hinvx.ap hle hmost' hinvx.below hinvx.base
                  replace hcall' := Lib.hid hcall'; replace hfin := Lib.hid hfin
                  clear hcall
                  go_wp2_with (go_at_call 5; refine hcall'.out.mono ?_; intro e w2 hr; obtain ⟨a2, c2, hinv2⟩ := hfin.out _ _ hr; obtain ⟨rfl, _⟩ := hr)
                  go_meet
                  exact ⟨12, a2, c2, ab, cb, bs, sn, rfl, rfl, rfl, rfl, hinv2⟩
      case rest =>
        clear hinv hbel hle hmost e0 e1 e2 e3
        obtain ⟨er, ad, cd, ab, cb, bs, sn, rfl, rfl, rfl, rfl, hinv⟩ := hcut
        have hm := hinv.most
        go_wp2_with fail
        have hinvd : Inv w wc.drew w.heap.size d ad cd ab cb bs sn := hinv.of_below (below_drew _)
        have hconv := inv_conv hinvd
        clear hinv
        refine wp_region_held_drew (S := (fun w' => (convert 27 9 (.slice ab bs.length cb)).run Try.prog w' = .ok (.string ⟨bs.toArray⟩) w' ∧ Inv w w' w.heap.size d ad cd ab cb bs sn)) (by kernel_rfl) ⟨hconv, hinvd⟩ (fun hHeld => ?_)
        refine wpAnyH_take (i := 0) (oi := _) (v := ?_) rfl (by kernel_rfl) (by kernel_rfl) (by kernel_rfl) (fun _ _ _ h => h) (Or.inl ⟨by rfl, ?_⟩) (by assumption) ?_
        rotate_left
        · intro w hSw
          try dsimp only at hSw
          go_simp
          try with_reducible rfl
        try simp only [Act.put, List.setIfInBounds_toArray, List.set_cons_zero, List.set_cons_succ]
        refine wpAnyH_take (i := 1) (oi := _) (v := ?_) rfl (by kernel_rfl) (by kernel_rfl) (by kernel_rfl) (fun _ _ _ h => h) (Or.inl ⟨by rfl, ?_⟩) (by assumption) ?_
        rotate_left
        · intro w hSw
          try dsimp only at hSw
          go_simp
          try with_reducible rfl
        try simp only [Act.put, List.setIfInBounds_toArray, List.set_cons_zero, List.set_cons_succ]
        refine wpAnyH_take (i := 2) (oi := _) (v := ?_) rfl (by kernel_rfl) (by kernel_rfl) (by kernel_rfl) (fun _ _ _ h => h) (Or.inl ⟨by rfl, ?_⟩) (by assumption) ?_
        rotate_left
        · intro w hSw
          try dsimp only at hSw
          go_simp
          try with_reducible rfl
        try simp only [Act.put, List.setIfInBounds_toArray, List.set_cons_zero, List.set_cons_succ]
        refine wpAnyH_take (i := 3) (oi := _) (v := ?_) rfl (by kernel_rfl) (by kernel_rfl) (by kernel_rfl) (fun _ _ _ h => h) (Or.inl ⟨by rfl, ?_⟩) (by assumption) ?_
        rotate_left
        · intro w hSw
          try dsimp only at hSw
          go_simp
          try with_reducible rfl
        try simp only [Act.put, List.setIfInBounds_toArray, List.set_cons_zero, List.set_cons_succ]
        refine wpAnyH_take (i := 4) (oi := _) (v := ?_) rfl (by kernel_rfl) (by kernel_rfl) (by kernel_rfl) (fun _ _ _ h => h) (Or.inl ⟨by rfl, ?_⟩) (by assumption) ?_
        rotate_left
        · intro w hSw
          try dsimp only at hSw
          go_simp
          try with_reducible rfl
        try simp only [Act.put, List.setIfInBounds_toArray, List.set_cons_zero, List.set_cons_succ]
        refine wpAnyH_take (i := 7) (oi := _) (v := ?_) rfl (by kernel_rfl) (by kernel_rfl) (by kernel_rfl) (fun _ _ _ h => h) (Or.inl ⟨by rfl, ?_⟩) (by assumption) ?_
        rotate_left
        · intro w hSw
          try dsimp only at hSw
          go_simp
          try with_reducible rfl
        try simp only [Act.put, List.setIfInBounds_toArray, List.set_cons_zero, List.set_cons_succ]
        refine wpAnyH_take (i := 8) (oi := _) (v := ?_) rfl (by kernel_rfl) (by kernel_rfl) (by kernel_rfl) (fun _ _ _ h => h) (Or.inl ⟨by rfl, ?_⟩) (by assumption) ?_
        rotate_left
        · intro w hSw
          try dsimp only at hSw
          go_simp
          try with_reducible rfl
        try simp only [Act.put, List.setIfInBounds_toArray, List.set_cons_zero, List.set_cons_succ]
        refine wpAnyH_ready (rs := [5]) (by kernel_rfl) (by simp) ?_
        refine AllReadyH.cons (o := _) rfl (fun K hK => ?_) AllReadyH.nil
        go_simp
        refine (dbytes_any (Inv.disk hinvd) (by omega)).mono ?_
        rintro e w1 ⟨g, rfl, hb1, hg1, hh1⟩
        have hinv1 := Inv.of_below (w0 := w) hinvd hb1
        have hconv1 := row_conv hh1
        have hconv2 := inv_conv hinv1
        go_wp2_with fail
        refine hK.out _ _ ⟨hconv2, hinv1⟩ (fun hHeld => ?_)
        clear hK K
        try simp only [Act.put, List.setIfInBounds_toArray, List.set_cons_zero, List.set_cons_succ]
        refine wpAnyH_ready (rs := [6]) (by kernel_rfl) (by simp) ?_
        refine AllReadyH.cons (o := _) rfl (fun K hK => ?_) AllReadyH.nil
        go_simp
        refine hK.out _ _ ⟨hconv2, hinv1⟩ (fun hHeld => ?_)
        clear hK K
        try simp only [Act.put, List.setIfInBounds_toArray, List.set_cons_zero, List.set_cons_succ]
        refine wpAnyH_take (i := 9) (oi := _) (v := ?_) rfl (by kernel_rfl) (by kernel_rfl) (by kernel_rfl) (fun _ _ _ h => h) (Or.inl ⟨by rfl, ?_⟩) (by assumption) ?_
        rotate_left
        · intro w hSw
          try dsimp only at hSw
          go_simp
          try with_reducible rfl
        try simp only [Act.put, List.setIfInBounds_toArray, List.set_cons_zero, List.set_cons_succ]
        refine wpAnyH_take (i := 10) (oi := _) (v := ?_) rfl (by kernel_rfl) (by kernel_rfl) (by kernel_rfl) (fun _ _ _ h => h) (Or.inl ⟨by rfl, ?_⟩) (by assumption) ?_
        rotate_left
        · intro w hSw
          try dsimp only at hSw
          go_simp
          try with_reducible rfl
        try simp only [Act.put, List.setIfInBounds_toArray, List.set_cons_zero, List.set_cons_succ]
        refine wpAnyH_take (i := 11) (oi := _) (v := ?_) rfl (by kernel_rfl) (by kernel_rfl) (by kernel_rfl) (fun _ _ _ h => h) (Or.inl ⟨by rfl, ?_⟩) (by assumption) ?_
        rotate_left
        · intro w hSw
          try dsimp only at hSw
          go_simp
          try with_reducible rfl
        try simp only [Act.put, List.setIfInBounds_toArray, List.set_cons_zero, List.set_cons_succ]
        refine wpAnyH_take (i := 12) (oi := _) (v := ?_) rfl (by kernel_rfl) (by kernel_rfl) (by kernel_rfl) (fun _ _ _ h => h) (Or.inl ⟨by rfl, ?_⟩) (by assumption) ?_
        rotate_left
        · intro w hSw
          try dsimp only at hSw
          go_simp
          try with_reducible rfl
        try simp only [Act.put, List.setIfInBounds_toArray, List.set_cons_zero, List.set_cons_succ]
        refine wpAnyH_take (i := 14) (oi := _) (v := ?_) rfl (by kernel_rfl) (by kernel_rfl) (by kernel_rfl) (fun _ _ _ h => h) (Or.inl ⟨by rfl, ?_⟩) (by assumption) ?_
        rotate_left
        · intro w hSw
          try dsimp only at hSw
          go_simp
          try with_reducible rfl
        try simp only [Act.put, List.setIfInBounds_toArray, List.set_cons_zero, List.set_cons_succ]
        refine wpAnyH_take (i := 15) (oi := _) (v := ?_) rfl (by kernel_rfl) (by kernel_rfl) (by kernel_rfl) (fun _ _ _ h => h) (Or.inl ⟨by rfl, ?_⟩) (by assumption) ?_
        rotate_left
        · intro w hSw
          try dsimp only at hSw
          go_simp
          try with_reducible rfl
        try simp only [Act.put, List.setIfInBounds_toArray, List.set_cons_zero, List.set_cons_succ]
        refine wpAnyH_ready (rs := [13]) (by kernel_rfl) (by simp) ?_
        refine AllReadyH.cons (o := _) rfl (fun K hK => ?_) AllReadyH.nil
        go_simp
        refine (dlen_any (Inv.disk hinv1)).mono ?_
        rintro e w' ⟨rfl, rfl⟩
        go_wp2_with fail
        refine hK.out _ _ ⟨hconv2, hinv1⟩ (fun hHeld => ?_)
        clear hK K
        try simp only [Act.put, List.setIfInBounds_toArray, List.set_cons_zero, List.set_cons_succ]
        refine wpAnyH_take (i := 16) (oi := _) (v := ?_) rfl (by kernel_rfl) (by kernel_rfl) (by kernel_rfl) (fun _ _ _ h => h) (Or.inl ⟨by rfl, ?_⟩) (by assumption) ?_
        rotate_left
        · intro w hSw
          try dsimp only at hSw
          go_simp
          try with_reducible rfl
        try simp only [Act.put, List.setIfInBounds_toArray, List.set_cons_zero, List.set_cons_succ]
        refine wpAnyH_take (i := 17) (oi := _) (v := ?_) rfl (by kernel_rfl) (by kernel_rfl) (by kernel_rfl) (fun _ _ _ h => h) (Or.inl ⟨by rfl, ?_⟩) (by assumption) ?_
        rotate_left
        · intro w hSw
          try dsimp only at hSw
          go_simp
          try with_reducible rfl
        try simp only [Act.put, List.setIfInBounds_toArray, List.set_cons_zero, List.set_cons_succ]
        refine wpAnyH_take (i := 18) (oi := _) (v := ?_) rfl (by kernel_rfl) (by kernel_rfl) (by kernel_rfl) (fun _ _ _ h => h) (Or.inl ⟨by rfl, ?_⟩) (by assumption) ?_
        rotate_left
        · intro w hSw
          try dsimp only at hSw
          go_simp
          try with_reducible rfl
        try simp only [Act.put, List.setIfInBounds_toArray, List.set_cons_zero, List.set_cons_succ]
        refine wpAnyH_take (i := 19) (oi := _) (v := ?_) rfl (by kernel_rfl) (by kernel_rfl) (by kernel_rfl) (fun _ _ _ h => h) (Or.inl ⟨by rfl, ?_⟩) (by assumption) ?_
        rotate_left
        · intro w hSw
          try dsimp only at hSw
          go_simp
          try with_reducible rfl
        try simp only [Act.put, List.setIfInBounds_toArray, List.set_cons_zero, List.set_cons_succ]
        refine wpAnyH_take (i := 21) (oi := _) (v := ?_) rfl (by kernel_rfl) (by kernel_rfl) (by kernel_rfl) (fun _ _ _ h => h) (Or.inl ⟨by rfl, ?_⟩) (by assumption) ?_
        rotate_left
        · intro w hSw
          try dsimp only at hSw
          go_simp
          try with_reducible rfl
        try simp only [Act.put, List.setIfInBounds_toArray, List.set_cons_zero, List.set_cons_succ]
        refine wpAnyH_ready (rs := [20]) (by kernel_rfl) (by simp) ?_
        refine AllReadyH.cons (o := _) rfl (fun K hK => ?_) AllReadyH.nil
        go_simp
        refine (dsure_any (Inv.disk hinv1)).mono ?_
        rintro e w' ⟨rfl, rfl⟩
        go_wp2_with fail
        refine hK.out _ _ ⟨hconv2, hinv1⟩ (fun hHeld => ?_)
        clear hK K
        try simp only [Act.put, List.setIfInBounds_toArray, List.set_cons_zero, List.set_cons_succ]
        refine wpAnyH_take (i := 22) (oi := _) (v := ?_) rfl (by kernel_rfl) (by kernel_rfl) (by kernel_rfl) (fun _ _ _ h => h) (Or.inl ⟨by rfl, ?_⟩) (by assumption) ?_
        rotate_left
        · intro w hSw
          try dsimp only at hSw
          go_simp
          try with_reducible rfl
        try simp only [Act.put, List.setIfInBounds_toArray, List.set_cons_zero, List.set_cons_succ]
        refine wpAnyH_take (i := 23) (oi := _) (v := ?_) rfl (by kernel_rfl) (by kernel_rfl) (by kernel_rfl) (fun _ _ _ h => h) (Or.inl ⟨by rfl, ?_⟩) (by assumption) ?_
        rotate_left
        · intro w hSw
          try dsimp only at hSw
          go_simp
          try with_reducible rfl
        try simp only [Act.put, List.setIfInBounds_toArray, List.set_cons_zero, List.set_cons_succ]
        refine wpAnyH_done (by kernel_rfl) ?_ _
        clear hHeld
        go_wp2
        go_roundw
        case rel => exact ⟨k + 1, ad, cd, ab, cb, bs, sn, by omega, by go_num, rfl, rfl, hinv1⟩
        case measure => simp [intOf]; omega
    · clear hl
      by_cases hlt2 : k < l.length
      · have h40 : ¬ (k : Int) < 40 := by omega
        go_wp2_with (go_at_call 12; refine (awake_any _).mono ?_; rintro e w2 ⟨rfl, hb2⟩)
        go_ret
        exact ⟨rfl, hbel.trans (hb2.mono hinv.base)⟩
      · obtain rfl : k = l.length := by omega
        go_wp2_with (go_at_call 12; refine (awake_any _).mono ?_; rintro e w2 ⟨rfl, hb2⟩)
        go_ret
        exact ⟨rfl, hbel.trans (hb2.mono hinv.base)⟩

end Go.Proofs.Ytkpmohbcejbagaa
