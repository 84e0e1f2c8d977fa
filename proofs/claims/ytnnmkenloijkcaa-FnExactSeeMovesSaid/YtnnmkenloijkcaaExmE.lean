/- Parts of the proof, in order: the engine, the contracts of the functions, the laws. -/
import Derived.Test.YtnnmkenloijkcaaExmD
/- Which asks go: the program's list, given what slices.Insert and slices.Delete do. -/
set_option linter.unusedVariables false
set_option linter.unusedSimpArgs false
set_option maxRecDepth 10000
namespace Go.Proofs.Ytnnmkenloijkcaa
open Go Eng

theorem clipR_ok (f : Bool) (rows : List (List D)) : ACalls Try.prog G0 52 [.d (.slc f 5 rows)] (· = .d (.slc true 5 rows)) := by
  refine spec_intro tabOk Try.func52 (by kernel_rfl) rfl ?_
  conv => whnf
  intro _
  conv => whnf
  intro _
  conv => whnf
  refine ⟨by omega, by omega, by omega, ?_⟩
  conv => whnf
  simp
theorem doYes_use (hI : InsOk) (hD : DelOk) {a b c : Bool} {g : Game} {r : Req} (hok : okG g = true) (hR : okR r = true) {args' : List V} (e : args' = [vGame a b c g, vReq r]) {ψ : V → Prop} (k : ∀ a b c, ψ (.tup [vGame a b c (doI g r).1, vi (doI g r).2])) :
    ∃ φ, ACalls Try.prog G0 17 args' φ ∧ ∀ q, φ q → ψ q := by
  subst e
  exact ⟨_, gameDoI_ok hI hD a b c g r, fun q h => by
    rcases h with ⟨h1, h2, e⟩ | ⟨h, _⟩
    · subst e; exact k true true true
    · exact absurd ⟨hok, .inr hR⟩ h⟩
open Classical in
noncomputable def seeMvI (g : Game) (cl : Int) : V :=
  if mvOk g cl then .d (.slc true 5 ((cur g cl (intAt g.last (cl - 1) + 1) 5 0 0).map encReq))
  else .d (.slc true 5 [])
set_option maxHeartbeats 1000000 in
theorem seeMvI_ok (hI : InsOk) (hD : DelOk) (fa fb fc : Bool) (g : Game) (cl : Int) : ACalls Try.prog G0 19 [vGame fa fb fc g, vi cl] (· = seeMvI g cl) := by
  refine spec_own tabOk Try.func19 (by kernel_rfl) [] [] rfl ?_
  conv => whnf
  have no : ∀ {v : V}, ¬ mvOk g cl → v = .d (.slc true 5 []) → v = seeMvI g cl := fun hn hv => by
    rw [hv, seeMvI, if_neg hn]
  refine call_bool (gameOk_ok fa fb fc g) (fun hok => ?_) (fun hok => ?_) <;> conv => whnf
  · refine call_bool (isClient_ok _) (fun hin => ?_) (fun hin => ?_) <;> conv => whnf
    · have hcl := inB_t.1 hin
      have hc1 := hcl.1
      have hc4 := hcl.2
      have hg := ok_good (of_okG hok)
      have hle := good_len hg
      have hnf := hg.nfloor
      have hnl := hg.nlast
      have wc : IntKind.i64.wrap (cl - 1) = cl - 1 := wrap_id (by omega) (by omega)
      have hl := hg.last _ (intAt_mem (l := g.last) (k := cl - 1) (by omega))
      refine ⟨by rw [wc]; omega, encI (intAt g.last (cl - 1)), by rw [wc]; exact intAt_row (l := g.last) (by omega) (by omega), ?_⟩
      conv => whnf
      refine ⟨fun h30 => ?_, fun h30 => ?_⟩ <;> conv => whnf
      · exact no (fun h => h.2.2 (by omega)) rfl
      have hyes : mvOk g cl := ⟨hok, hin, by omega⟩
      have hw : IntKind.i64.wrap (intAt g.last (cl - 1) + 1) = intAt g.last (cl - 1) + 1 := wrap_id (by omega) (by omega)
      obtain ⟨n, hn⟩ : ∃ n, n = intAt g.last (cl - 1) + 1 := ⟨_, rfl⟩
      have hwn : vi (IntKind.i64.wrap (intAt g.last (cl - 1) + 1)) = vi n := congrArg vi (hw.trans hn.symm)
      have hnr : 1 ≤ n ∧ n ≤ 31 := by omega
      refine ⟨{ x : MIx // MvInv 5 (fun a => cur g cl n a 0 0) x }, fun x => MS 67 (.box [.d (dEnts fa g.ents), .d (dInts fb g.floor), .d (dInts fc g.last)]) [(1, vi cl), (2, .ref 2 0 0 0), (6, vi ((x.1.i : Int) + 1))] x.1.es, fun x => 5 - x.1.i, ⟨⟨0, []⟩, ⟨by simp, rfl⟩⟩, ?_, ?_⟩
      · exact ⟨(weakSl_cons rfl rfl (weakSl_cons rfl rfl (weakSl_cons rfl rfl (weakSl_cons rfl rfl weakSl_nil)))), (weakHp_cons rfl rfl weakHp_nil), rfl⟩
      rintro ⟨⟨a, es0⟩, hinv0⟩
      have ha : a ≤ 5 := hinv0.i
      have hes0 : es0 = cur g cl n a 0 0 := hinv0.es
      cases es0 with
      | nil =>
        conv => whnf
        refine ⟨fun hlt => ?_, fun hge => ?_⟩ <;> conv => whnf
        · have hlt : (a : Int) + 1 ≤ 5 := hlt
          refine ⟨{ x : MIx // MvInv 6 (fun b => cur g cl n a b 0) x }, fun x => MS 67 (.box [.d (dEnts fa g.ents), .d (dInts fb g.floor), .d (dInts fc g.last)]) [(1, vi cl), (2, .ref 2 0 0 0), (6, vi ((a : Int) + 1)), (7, vi ((x.1.i : Int) - 1))] x.1.es, fun x => 6 - x.1.i, ⟨⟨0, []⟩, ⟨by simp, hes0⟩⟩, ?_, ?_⟩
          · exact ⟨(weakSl_cons rfl rfl (weakSl_cons rfl rfl (weakSl_cons rfl rfl (weakSl_cons rfl rfl (weakSl_cons rfl rfl weakSl_nil))))), (weakHp_cons rfl rfl weakHp_nil), rfl⟩
          rintro ⟨⟨b, es1⟩, hinv1⟩
          have hb : b ≤ 6 := hinv1.i
          have hes1 : es1 = cur g cl n a b 0 := hinv1.es
          cases es1 with
          | nil =>
            conv => whnf
            refine ⟨fun hlt => ?_, fun hge => ?_⟩ <;> conv => whnf
            · have hlt : (b : Int) - 1 ≤ 4 := hlt
              refine ⟨{ x : MIx // MvInv 11 (cur g cl n a b) x }, fun x => MS 67 (.box [.d (dEnts fa g.ents), .d (dInts fb g.floor), .d (dInts fc g.last)]) [(1, vi cl), (2, .ref 2 0 0 0), (6, vi ((a : Int) + 1)), (7, vi ((b : Int) - 1)), (8, vi ((x.1.i : Int) - 1))] x.1.es, fun x => 11 - x.1.i, ⟨⟨0, []⟩, ⟨by simp, hes1⟩⟩, ?_, ?_⟩
              · exact ⟨(weakSl_cons rfl rfl (weakSl_cons rfl rfl (weakSl_cons rfl rfl (weakSl_cons rfl rfl (weakSl_cons rfl rfl (weakSl_cons rfl rfl weakSl_nil)))))), (weakHp_cons rfl rfl weakHp_nil), rfl⟩
              rintro ⟨⟨d, es2⟩, hinv2⟩
              have hd : d ≤ 11 := hinv2.i
              have hes2 : es2 = cur g cl n a b d := hinv2.es
              cases es2 with
              | nil =>
                conv => whnf
                refine ⟨fun hlt => ?_, fun hge => ?_⟩ <;> conv => whnf
                · have hlt : (d : Int) - 1 ≤ 9 := hlt
                  have hsame := (fun hgo : goes g (mvReq cl n a b d) = false => (⟨by show d + 1 ≤ 11; omega, by show [] = cur g cl n a b (d + 1); rw [cur_y, ← hes2, mv1, hgo]; simp⟩ : MvInv 11 (cur g cl n a b) ⟨d + 1, []⟩))
                  have hrow : ([.int .i64 cl, .int .i64 (IntKind.i64.wrap (intAt g.last (cl - 1) + 1)), .int .i64 ((a : Int) + 1), .int .i64 ((b : Int) - 1), .int .i64 ((d : Int) - 1)] : List D) = encReq (mvReq cl n a b d) := by rw [hw, ← hn]; rfl
                  have harg : V.agg [vi cl, vi (IntKind.i64.wrap (intAt g.last (cl - 1) + 1)), vi ((a : Int) + 1), vi ((b : Int) - 1), vi ((d : Int) - 1)] = vReq (mvReq cl n a b d) := by rw [hwn]; rfl
                  refine ⟨by rw [wc]; omega, encI (intAt g.last (cl - 1)), by rw [wc]; exact intAt_row (l := g.last) (by omega) (by omega), ?_⟩
                  conv => whnf
                  refine call_bool' (reqOk_ok (mvReq cl n a b d)) (congrArg (fun z => [z]) harg) (fun hR => ?_) (fun hR => ?_) <;> conv => whnf
                  · refine doYes_use hI hD (a := fa) (b := fb) (c := fc) hok hR (congrArg (fun z => [vGame fa fb fc g, z]) harg) fun x1 x2 x3 => ?_
                    conv => whnf
                    refine ⟨fun hz => ?_, fun hz => ?_⟩ <;> conv => whnf
                    · have hgo : goes g (mvReq cl n a b d) = true := by unfold goes; rw [hR]; simpa using hz
                      refine ⟨room (by simp) rfl, room' (by simp), ?_⟩
                      conv => whnf
                      exact ⟨⟨⟨d + 1, [mvReq cl n a b d]⟩, ⟨by show d + 1 ≤ 11; omega, by show [mvReq cl n a b d] = cur g cl n a b (d + 1); rw [cur_y, ← hes2, mv1, hgo]; rfl⟩⟩, by show 11 - (d + 1) < 11 - d; omega, ⟨(weakSl_cons (congrArg (fun z => V.osl 67 5 [z]) hrow) rfl (weakSl_cons rfl rfl (weakSl_cons rfl rfl (weakSl_cons rfl rfl (weakSl_cons rfl rfl (weakSl_cons (stepB d (by omega)) rfl weakSl_nil)))))), (weakHp_cons rfl rfl (weakHp_cons rfl rfl weakHp_nil)), rfl⟩⟩
                    · exact ⟨⟨⟨d + 1, []⟩, hsame (by unfold goes; rw [hR]; simpa using hz)⟩, by show 11 - (d + 1) < 11 - d; omega, ⟨(weakSl_cons rfl rfl (weakSl_cons rfl rfl (weakSl_cons rfl rfl (weakSl_cons rfl rfl (weakSl_cons rfl rfl (weakSl_cons (stepB d (by omega)) rfl weakSl_nil)))))), (weakHp_cons rfl rfl weakHp_nil), rfl⟩⟩
                  · exact ⟨⟨⟨d + 1, []⟩, hsame (by unfold goes; rw [hR]; rfl)⟩, by show 11 - (d + 1) < 11 - d; omega, ⟨(weakSl_cons rfl rfl (weakSl_cons rfl rfl (weakSl_cons rfl rfl (weakSl_cons rfl rfl (weakSl_cons rfl rfl (weakSl_cons (stepB d (by omega)) rfl weakSl_nil)))))), (weakHp_cons rfl rfl weakHp_nil), rfl⟩⟩
                · have hge : ¬ (d : Int) - 1 ≤ 9 := hge
                  have hd11 : d = 11 := by omega
                  exact ⟨⟨⟨b + 1, []⟩, ⟨by show b + 1 ≤ 6; omega, by show [] = cur g cl n a (b + 1) 0; rw [cur_x, ← hd11]; exact hes2⟩⟩, by show 6 - (b + 1) < 6 - b; omega, ⟨(weakSl_cons rfl rfl (weakSl_cons rfl rfl (weakSl_cons rfl rfl (weakSl_cons rfl rfl (weakSl_cons (stepB b (by omega)) rfl weakSl_nil))))), (weakHp_cons rfl rfl weakHp_nil), rfl⟩⟩
              | cons q2 qs2 =>
                conv => whnf
                have hlq : (q2 :: qs2).length ≤ 500 := by rw [hes2]; exact cur_len (by omega) (by omega) (by omega)
                simp only [List.length_cons] at hlq
                refine ⟨fun hlt => ?_, fun hge => ?_⟩ <;> conv => whnf
                · have hlt : (d : Int) - 1 ≤ 9 := hlt
                  have hsame := (fun hgo : goes g (mvReq cl n a b d) = false => (⟨by show d + 1 ≤ 11; omega, by show (q2 :: qs2) = cur g cl n a b (d + 1); rw [cur_y, ← hes2, mv1, hgo]; simp⟩ : MvInv 11 (cur g cl n a b) ⟨d + 1, (q2 :: qs2)⟩))
                  have hrow : ([.int .i64 cl, .int .i64 (IntKind.i64.wrap (intAt g.last (cl - 1) + 1)), .int .i64 ((a : Int) + 1), .int .i64 ((b : Int) - 1), .int .i64 ((d : Int) - 1)] : List D) = encReq (mvReq cl n a b d) := by rw [hw, ← hn]; rfl
                  have harg : V.agg [vi cl, vi (IntKind.i64.wrap (intAt g.last (cl - 1) + 1)), vi ((a : Int) + 1), vi ((b : Int) - 1), vi ((d : Int) - 1)] = vReq (mvReq cl n a b d) := by rw [hwn]; rfl
                  refine ⟨by rw [wc]; omega, encI (intAt g.last (cl - 1)), by rw [wc]; exact intAt_row (l := g.last) (by omega) (by omega), ?_⟩
                  conv => whnf
                  refine call_bool' (reqOk_ok (mvReq cl n a b d)) (congrArg (fun z => [z]) harg) (fun hR => ?_) (fun hR => ?_) <;> conv => whnf
                  · refine doYes_use hI hD (a := fa) (b := fb) (c := fc) hok hR (congrArg (fun z => [vGame fa fb fc g, z]) harg) fun x1 x2 x3 => ?_
                    conv => whnf
                    refine ⟨fun hz => ?_, fun hz => ?_⟩ <;> conv => whnf
                    · have hgo : goes g (mvReq cl n a b d) = true := by unfold goes; rw [hR]; simpa using hz
                      refine ⟨by simp, room (by simp; omega) rfl, room' (by simp; omega), ?_⟩
                      conv => whnf
                      have happ : (q2 :: qs2).map encReq ++ [[.int .i64 cl, .int .i64 (IntKind.i64.wrap (intAt g.last (cl - 1) + 1)), .int .i64 ((a : Int) + 1), .int .i64 ((b : Int) - 1), .int .i64 ((d : Int) - 1)]] = (q2 :: (qs2 ++ [mvReq cl n a b d])).map encReq := by rw [hrow]; simp
                      have hgrow : ((q2 :: qs2).map encReq).length + 1 = (qs2 ++ [mvReq cl n a b d]).length + 1 := by simp
                      exact ⟨⟨⟨d + 1, (q2 :: (qs2 ++ [mvReq cl n a b d]))⟩, ⟨by show d + 1 ≤ 11; omega, by show (q2 :: (qs2 ++ [mvReq cl n a b d])) = cur g cl n a b (d + 1); rw [cur_y, ← hes2, mv1, hgo]; rfl⟩⟩, by show 11 - (d + 1) < 11 - d; omega, ⟨(weakSl_cons (congrArg (fun z => V.osl 67 5 z) happ) rfl (weakSl_cons rfl rfl (weakSl_cons rfl rfl (weakSl_cons rfl rfl (weakSl_cons rfl rfl (weakSl_cons (stepB d (by omega)) rfl weakSl_nil)))))), (weakHp_cons rfl rfl (weakHp_cons (congrArg (fun z => Obj.grow 5 z) hgrow) rfl weakHp_nil)), rfl⟩⟩
                    · exact ⟨⟨⟨d + 1, (q2 :: qs2)⟩, hsame (by unfold goes; rw [hR]; simpa using hz)⟩, by show 11 - (d + 1) < 11 - d; omega, ⟨(weakSl_cons rfl rfl (weakSl_cons rfl rfl (weakSl_cons rfl rfl (weakSl_cons rfl rfl (weakSl_cons rfl rfl (weakSl_cons (stepB d (by omega)) rfl weakSl_nil)))))), (weakHp_cons rfl rfl (weakHp_cons rfl rfl weakHp_nil)), rfl⟩⟩
                  · exact ⟨⟨⟨d + 1, (q2 :: qs2)⟩, hsame (by unfold goes; rw [hR]; rfl)⟩, by show 11 - (d + 1) < 11 - d; omega, ⟨(weakSl_cons rfl rfl (weakSl_cons rfl rfl (weakSl_cons rfl rfl (weakSl_cons rfl rfl (weakSl_cons rfl rfl (weakSl_cons (stepB d (by omega)) rfl weakSl_nil)))))), (weakHp_cons rfl rfl (weakHp_cons rfl rfl weakHp_nil)), rfl⟩⟩
                · have hge : ¬ (d : Int) - 1 ≤ 9 := hge
                  have hd11 : d = 11 := by omega
                  exact ⟨⟨⟨b + 1, (q2 :: qs2)⟩, ⟨by show b + 1 ≤ 6; omega, by show (q2 :: qs2) = cur g cl n a (b + 1) 0; rw [cur_x, ← hd11]; exact hes2⟩⟩, by show 6 - (b + 1) < 6 - b; omega, ⟨(weakSl_cons rfl rfl (weakSl_cons rfl rfl (weakSl_cons rfl rfl (weakSl_cons rfl rfl (weakSl_cons (stepB b (by omega)) rfl weakSl_nil))))), (weakHp_cons rfl rfl (weakHp_cons rfl rfl weakHp_nil)), rfl⟩⟩
            · have hge : ¬ (b : Int) - 1 ≤ 4 := hge
              have hb6 : b = 6 := by omega
              exact ⟨⟨⟨a + 1, []⟩, ⟨by show a + 1 ≤ 5; omega, by show [] = cur g cl n (a + 1) 0 0; rw [cur_o, ← hb6]; exact hes1⟩⟩, by show 5 - (a + 1) < 5 - a; omega, ⟨(weakSl_cons rfl rfl (weakSl_cons rfl rfl (weakSl_cons rfl rfl (weakSl_cons (stepA a (by omega)) rfl weakSl_nil)))), (weakHp_cons rfl rfl weakHp_nil), rfl⟩⟩
          | cons q1 qs1 =>
            conv => whnf
            refine ⟨fun hlt => ?_, fun hge => ?_⟩ <;> conv => whnf
            · have hlt : (b : Int) - 1 ≤ 4 := hlt
              refine ⟨{ x : MIx // MvInv 11 (cur g cl n a b) x }, fun x => MS 67 (.box [.d (dEnts fa g.ents), .d (dInts fb g.floor), .d (dInts fc g.last)]) [(1, vi cl), (2, .ref 2 0 0 0), (6, vi ((a : Int) + 1)), (7, vi ((b : Int) - 1)), (8, vi ((x.1.i : Int) - 1))] x.1.es, fun x => 11 - x.1.i, ⟨⟨0, (q1 :: qs1)⟩, ⟨by simp, hes1⟩⟩, ?_, ?_⟩
              · exact ⟨(weakSl_cons rfl rfl (weakSl_cons rfl rfl (weakSl_cons rfl rfl (weakSl_cons rfl rfl (weakSl_cons rfl rfl (weakSl_cons rfl rfl weakSl_nil)))))), (weakHp_cons rfl rfl (weakHp_cons rfl rfl weakHp_nil)), rfl⟩
              rintro ⟨⟨d, es2⟩, hinv2⟩
              have hd : d ≤ 11 := hinv2.i
              have hes2 : es2 = cur g cl n a b d := hinv2.es
              cases es2 with
              | nil =>
                conv => whnf
                refine ⟨fun hlt => ?_, fun hge => ?_⟩ <;> conv => whnf
                · have hlt : (d : Int) - 1 ≤ 9 := hlt
                  have hsame := (fun hgo : goes g (mvReq cl n a b d) = false => (⟨by show d + 1 ≤ 11; omega, by show [] = cur g cl n a b (d + 1); rw [cur_y, ← hes2, mv1, hgo]; simp⟩ : MvInv 11 (cur g cl n a b) ⟨d + 1, []⟩))
                  have hrow : ([.int .i64 cl, .int .i64 (IntKind.i64.wrap (intAt g.last (cl - 1) + 1)), .int .i64 ((a : Int) + 1), .int .i64 ((b : Int) - 1), .int .i64 ((d : Int) - 1)] : List D) = encReq (mvReq cl n a b d) := by rw [hw, ← hn]; rfl
                  have harg : V.agg [vi cl, vi (IntKind.i64.wrap (intAt g.last (cl - 1) + 1)), vi ((a : Int) + 1), vi ((b : Int) - 1), vi ((d : Int) - 1)] = vReq (mvReq cl n a b d) := by rw [hwn]; rfl
                  refine ⟨by rw [wc]; omega, encI (intAt g.last (cl - 1)), by rw [wc]; exact intAt_row (l := g.last) (by omega) (by omega), ?_⟩
                  conv => whnf
                  refine call_bool' (reqOk_ok (mvReq cl n a b d)) (congrArg (fun z => [z]) harg) (fun hR => ?_) (fun hR => ?_) <;> conv => whnf
                  · refine doYes_use hI hD (a := fa) (b := fb) (c := fc) hok hR (congrArg (fun z => [vGame fa fb fc g, z]) harg) fun x1 x2 x3 => ?_
                    conv => whnf
                    refine ⟨fun hz => ?_, fun hz => ?_⟩ <;> conv => whnf
                    · have hgo : goes g (mvReq cl n a b d) = true := by unfold goes; rw [hR]; simpa using hz
                      refine ⟨room (by simp) rfl, room' (by simp), ?_⟩
                      conv => whnf
                      exact ⟨⟨⟨d + 1, [mvReq cl n a b d]⟩, ⟨by show d + 1 ≤ 11; omega, by show [mvReq cl n a b d] = cur g cl n a b (d + 1); rw [cur_y, ← hes2, mv1, hgo]; rfl⟩⟩, by show 11 - (d + 1) < 11 - d; omega, ⟨(weakSl_cons (congrArg (fun z => V.osl 67 5 [z]) hrow) rfl (weakSl_cons rfl rfl (weakSl_cons rfl rfl (weakSl_cons rfl rfl (weakSl_cons rfl rfl (weakSl_cons (stepB d (by omega)) rfl weakSl_nil)))))), (weakHp_cons rfl rfl (weakHp_cons rfl rfl weakHp_nil)), rfl⟩⟩
                    · exact ⟨⟨⟨d + 1, []⟩, hsame (by unfold goes; rw [hR]; simpa using hz)⟩, by show 11 - (d + 1) < 11 - d; omega, ⟨(weakSl_cons rfl rfl (weakSl_cons rfl rfl (weakSl_cons rfl rfl (weakSl_cons rfl rfl (weakSl_cons rfl rfl (weakSl_cons (stepB d (by omega)) rfl weakSl_nil)))))), (weakHp_cons rfl rfl weakHp_nil), rfl⟩⟩
                  · exact ⟨⟨⟨d + 1, []⟩, hsame (by unfold goes; rw [hR]; rfl)⟩, by show 11 - (d + 1) < 11 - d; omega, ⟨(weakSl_cons rfl rfl (weakSl_cons rfl rfl (weakSl_cons rfl rfl (weakSl_cons rfl rfl (weakSl_cons rfl rfl (weakSl_cons (stepB d (by omega)) rfl weakSl_nil)))))), (weakHp_cons rfl rfl weakHp_nil), rfl⟩⟩
                · have hge : ¬ (d : Int) - 1 ≤ 9 := hge
                  have hd11 : d = 11 := by omega
                  exact ⟨⟨⟨b + 1, []⟩, ⟨by show b + 1 ≤ 6; omega, by show [] = cur g cl n a (b + 1) 0; rw [cur_x, ← hd11]; exact hes2⟩⟩, by show 6 - (b + 1) < 6 - b; omega, ⟨(weakSl_cons rfl rfl (weakSl_cons rfl rfl (weakSl_cons rfl rfl (weakSl_cons rfl rfl (weakSl_cons (stepB b (by omega)) rfl weakSl_nil))))), (weakHp_cons rfl rfl weakHp_nil), rfl⟩⟩
              | cons q2 qs2 =>
                conv => whnf
                have hlq : (q2 :: qs2).length ≤ 500 := by rw [hes2]; exact cur_len (by omega) (by omega) (by omega)
                simp only [List.length_cons] at hlq
                refine ⟨fun hlt => ?_, fun hge => ?_⟩ <;> conv => whnf
                · have hlt : (d : Int) - 1 ≤ 9 := hlt
                  have hsame := (fun hgo : goes g (mvReq cl n a b d) = false => (⟨by show d + 1 ≤ 11; omega, by show (q2 :: qs2) = cur g cl n a b (d + 1); rw [cur_y, ← hes2, mv1, hgo]; simp⟩ : MvInv 11 (cur g cl n a b) ⟨d + 1, (q2 :: qs2)⟩))
                  have hrow : ([.int .i64 cl, .int .i64 (IntKind.i64.wrap (intAt g.last (cl - 1) + 1)), .int .i64 ((a : Int) + 1), .int .i64 ((b : Int) - 1), .int .i64 ((d : Int) - 1)] : List D) = encReq (mvReq cl n a b d) := by rw [hw, ← hn]; rfl
                  have harg : V.agg [vi cl, vi (IntKind.i64.wrap (intAt g.last (cl - 1) + 1)), vi ((a : Int) + 1), vi ((b : Int) - 1), vi ((d : Int) - 1)] = vReq (mvReq cl n a b d) := by rw [hwn]; rfl
                  refine ⟨by rw [wc]; omega, encI (intAt g.last (cl - 1)), by rw [wc]; exact intAt_row (l := g.last) (by omega) (by omega), ?_⟩
                  conv => whnf
                  refine call_bool' (reqOk_ok (mvReq cl n a b d)) (congrArg (fun z => [z]) harg) (fun hR => ?_) (fun hR => ?_) <;> conv => whnf
                  · refine doYes_use hI hD (a := fa) (b := fb) (c := fc) hok hR (congrArg (fun z => [vGame fa fb fc g, z]) harg) fun x1 x2 x3 => ?_
                    conv => whnf
                    refine ⟨fun hz => ?_, fun hz => ?_⟩ <;> conv => whnf
                    · have hgo : goes g (mvReq cl n a b d) = true := by unfold goes; rw [hR]; simpa using hz
                      refine ⟨by simp, room (by simp; omega) rfl, room' (by simp; omega), ?_⟩
                      conv => whnf
                      have happ : (q2 :: qs2).map encReq ++ [[.int .i64 cl, .int .i64 (IntKind.i64.wrap (intAt g.last (cl - 1) + 1)), .int .i64 ((a : Int) + 1), .int .i64 ((b : Int) - 1), .int .i64 ((d : Int) - 1)]] = (q2 :: (qs2 ++ [mvReq cl n a b d])).map encReq := by rw [hrow]; simp
                      have hgrow : ((q2 :: qs2).map encReq).length + 1 = (qs2 ++ [mvReq cl n a b d]).length + 1 := by simp
                      exact ⟨⟨⟨d + 1, (q2 :: (qs2 ++ [mvReq cl n a b d]))⟩, ⟨by show d + 1 ≤ 11; omega, by show (q2 :: (qs2 ++ [mvReq cl n a b d])) = cur g cl n a b (d + 1); rw [cur_y, ← hes2, mv1, hgo]; rfl⟩⟩, by show 11 - (d + 1) < 11 - d; omega, ⟨(weakSl_cons (congrArg (fun z => V.osl 67 5 z) happ) rfl (weakSl_cons rfl rfl (weakSl_cons rfl rfl (weakSl_cons rfl rfl (weakSl_cons rfl rfl (weakSl_cons (stepB d (by omega)) rfl weakSl_nil)))))), (weakHp_cons rfl rfl (weakHp_cons (congrArg (fun z => Obj.grow 5 z) hgrow) rfl weakHp_nil)), rfl⟩⟩
                    · exact ⟨⟨⟨d + 1, (q2 :: qs2)⟩, hsame (by unfold goes; rw [hR]; simpa using hz)⟩, by show 11 - (d + 1) < 11 - d; omega, ⟨(weakSl_cons rfl rfl (weakSl_cons rfl rfl (weakSl_cons rfl rfl (weakSl_cons rfl rfl (weakSl_cons rfl rfl (weakSl_cons (stepB d (by omega)) rfl weakSl_nil)))))), (weakHp_cons rfl rfl (weakHp_cons rfl rfl weakHp_nil)), rfl⟩⟩
                  · exact ⟨⟨⟨d + 1, (q2 :: qs2)⟩, hsame (by unfold goes; rw [hR]; rfl)⟩, by show 11 - (d + 1) < 11 - d; omega, ⟨(weakSl_cons rfl rfl (weakSl_cons rfl rfl (weakSl_cons rfl rfl (weakSl_cons rfl rfl (weakSl_cons rfl rfl (weakSl_cons (stepB d (by omega)) rfl weakSl_nil)))))), (weakHp_cons rfl rfl (weakHp_cons rfl rfl weakHp_nil)), rfl⟩⟩
                · have hge : ¬ (d : Int) - 1 ≤ 9 := hge
                  have hd11 : d = 11 := by omega
                  exact ⟨⟨⟨b + 1, (q2 :: qs2)⟩, ⟨by show b + 1 ≤ 6; omega, by show (q2 :: qs2) = cur g cl n a (b + 1) 0; rw [cur_x, ← hd11]; exact hes2⟩⟩, by show 6 - (b + 1) < 6 - b; omega, ⟨(weakSl_cons rfl rfl (weakSl_cons rfl rfl (weakSl_cons rfl rfl (weakSl_cons rfl rfl (weakSl_cons (stepB b (by omega)) rfl weakSl_nil))))), (weakHp_cons rfl rfl (weakHp_cons rfl rfl weakHp_nil)), rfl⟩⟩
            · have hge : ¬ (b : Int) - 1 ≤ 4 := hge
              have hb6 : b = 6 := by omega
              exact ⟨⟨⟨a + 1, (q1 :: qs1)⟩, ⟨by show a + 1 ≤ 5; omega, by show (q1 :: qs1) = cur g cl n (a + 1) 0 0; rw [cur_o, ← hb6]; exact hes1⟩⟩, by show 5 - (a + 1) < 5 - a; omega, ⟨(weakSl_cons rfl rfl (weakSl_cons rfl rfl (weakSl_cons rfl rfl (weakSl_cons (stepA a (by omega)) rfl weakSl_nil)))), (weakHp_cons rfl rfl (weakHp_cons rfl rfl weakHp_nil)), rfl⟩⟩
        · have hge : ¬ (a : Int) + 1 ≤ 5 := hge
          have ha5 : a = 5 := by omega
          have hes5 : [] = cur g cl n 5 0 0 := by rw [← ha5]; exact hes0
          refine call_eq (clipR_ok true []) ?_
          conv => whnf
          refine (?_ : V.d _ = seeMvI g cl)
          rw [seeMvI, if_pos hyes, ← hn, ← hes5] <;> rfl
      | cons q0 qs0 =>
        conv => whnf
        refine ⟨fun hlt => ?_, fun hge => ?_⟩ <;> conv => whnf
        · have hlt : (a : Int) + 1 ≤ 5 := hlt
          refine ⟨{ x : MIx // MvInv 6 (fun b => cur g cl n a b 0) x }, fun x => MS 67 (.box [.d (dEnts fa g.ents), .d (dInts fb g.floor), .d (dInts fc g.last)]) [(1, vi cl), (2, .ref 2 0 0 0), (6, vi ((a : Int) + 1)), (7, vi ((x.1.i : Int) - 1))] x.1.es, fun x => 6 - x.1.i, ⟨⟨0, (q0 :: qs0)⟩, ⟨by simp, hes0⟩⟩, ?_, ?_⟩
          · exact ⟨(weakSl_cons rfl rfl (weakSl_cons rfl rfl (weakSl_cons rfl rfl (weakSl_cons rfl rfl (weakSl_cons rfl rfl weakSl_nil))))), (weakHp_cons rfl rfl (weakHp_cons rfl rfl weakHp_nil)), rfl⟩
          rintro ⟨⟨b, es1⟩, hinv1⟩
          have hb : b ≤ 6 := hinv1.i
          have hes1 : es1 = cur g cl n a b 0 := hinv1.es
          cases es1 with
          | nil =>
            conv => whnf
            refine ⟨fun hlt => ?_, fun hge => ?_⟩ <;> conv => whnf
            · have hlt : (b : Int) - 1 ≤ 4 := hlt
              refine ⟨{ x : MIx // MvInv 11 (cur g cl n a b) x }, fun x => MS 67 (.box [.d (dEnts fa g.ents), .d (dInts fb g.floor), .d (dInts fc g.last)]) [(1, vi cl), (2, .ref 2 0 0 0), (6, vi ((a : Int) + 1)), (7, vi ((b : Int) - 1)), (8, vi ((x.1.i : Int) - 1))] x.1.es, fun x => 11 - x.1.i, ⟨⟨0, []⟩, ⟨by simp, hes1⟩⟩, ?_, ?_⟩
              · exact ⟨(weakSl_cons rfl rfl (weakSl_cons rfl rfl (weakSl_cons rfl rfl (weakSl_cons rfl rfl (weakSl_cons rfl rfl (weakSl_cons rfl rfl weakSl_nil)))))), (weakHp_cons rfl rfl weakHp_nil), rfl⟩
              rintro ⟨⟨d, es2⟩, hinv2⟩
              have hd : d ≤ 11 := hinv2.i
              have hes2 : es2 = cur g cl n a b d := hinv2.es
              cases es2 with
              | nil =>
                conv => whnf
                refine ⟨fun hlt => ?_, fun hge => ?_⟩ <;> conv => whnf
                · have hlt : (d : Int) - 1 ≤ 9 := hlt
                  have hsame := (fun hgo : goes g (mvReq cl n a b d) = false => (⟨by show d + 1 ≤ 11; omega, by show [] = cur g cl n a b (d + 1); rw [cur_y, ← hes2, mv1, hgo]; simp⟩ : MvInv 11 (cur g cl n a b) ⟨d + 1, []⟩))
                  have hrow : ([.int .i64 cl, .int .i64 (IntKind.i64.wrap (intAt g.last (cl - 1) + 1)), .int .i64 ((a : Int) + 1), .int .i64 ((b : Int) - 1), .int .i64 ((d : Int) - 1)] : List D) = encReq (mvReq cl n a b d) := by rw [hw, ← hn]; rfl
                  have harg : V.agg [vi cl, vi (IntKind.i64.wrap (intAt g.last (cl - 1) + 1)), vi ((a : Int) + 1), vi ((b : Int) - 1), vi ((d : Int) - 1)] = vReq (mvReq cl n a b d) := by rw [hwn]; rfl
                  refine ⟨by rw [wc]; omega, encI (intAt g.last (cl - 1)), by rw [wc]; exact intAt_row (l := g.last) (by omega) (by omega), ?_⟩
                  conv => whnf
                  refine call_bool' (reqOk_ok (mvReq cl n a b d)) (congrArg (fun z => [z]) harg) (fun hR => ?_) (fun hR => ?_) <;> conv => whnf
                  · refine doYes_use hI hD (a := fa) (b := fb) (c := fc) hok hR (congrArg (fun z => [vGame fa fb fc g, z]) harg) fun x1 x2 x3 => ?_
                    conv => whnf
                    refine ⟨fun hz => ?_, fun hz => ?_⟩ <;> conv => whnf
                    · have hgo : goes g (mvReq cl n a b d) = true := by unfold goes; rw [hR]; simpa using hz
                      refine ⟨room (by simp) rfl, room' (by simp), ?_⟩
                      conv => whnf
                      exact ⟨⟨⟨d + 1, [mvReq cl n a b d]⟩, ⟨by show d + 1 ≤ 11; omega, by show [mvReq cl n a b d] = cur g cl n a b (d + 1); rw [cur_y, ← hes2, mv1, hgo]; rfl⟩⟩, by show 11 - (d + 1) < 11 - d; omega, ⟨(weakSl_cons (congrArg (fun z => V.osl 67 5 [z]) hrow) rfl (weakSl_cons rfl rfl (weakSl_cons rfl rfl (weakSl_cons rfl rfl (weakSl_cons rfl rfl (weakSl_cons (stepB d (by omega)) rfl weakSl_nil)))))), (weakHp_cons rfl rfl (weakHp_cons rfl rfl weakHp_nil)), rfl⟩⟩
                    · exact ⟨⟨⟨d + 1, []⟩, hsame (by unfold goes; rw [hR]; simpa using hz)⟩, by show 11 - (d + 1) < 11 - d; omega, ⟨(weakSl_cons rfl rfl (weakSl_cons rfl rfl (weakSl_cons rfl rfl (weakSl_cons rfl rfl (weakSl_cons rfl rfl (weakSl_cons (stepB d (by omega)) rfl weakSl_nil)))))), (weakHp_cons rfl rfl weakHp_nil), rfl⟩⟩
                  · exact ⟨⟨⟨d + 1, []⟩, hsame (by unfold goes; rw [hR]; rfl)⟩, by show 11 - (d + 1) < 11 - d; omega, ⟨(weakSl_cons rfl rfl (weakSl_cons rfl rfl (weakSl_cons rfl rfl (weakSl_cons rfl rfl (weakSl_cons rfl rfl (weakSl_cons (stepB d (by omega)) rfl weakSl_nil)))))), (weakHp_cons rfl rfl weakHp_nil), rfl⟩⟩
                · have hge : ¬ (d : Int) - 1 ≤ 9 := hge
                  have hd11 : d = 11 := by omega
                  exact ⟨⟨⟨b + 1, []⟩, ⟨by show b + 1 ≤ 6; omega, by show [] = cur g cl n a (b + 1) 0; rw [cur_x, ← hd11]; exact hes2⟩⟩, by show 6 - (b + 1) < 6 - b; omega, ⟨(weakSl_cons rfl rfl (weakSl_cons rfl rfl (weakSl_cons rfl rfl (weakSl_cons rfl rfl (weakSl_cons (stepB b (by omega)) rfl weakSl_nil))))), (weakHp_cons rfl rfl weakHp_nil), rfl⟩⟩
              | cons q2 qs2 =>
                conv => whnf
                have hlq : (q2 :: qs2).length ≤ 500 := by rw [hes2]; exact cur_len (by omega) (by omega) (by omega)
                simp only [List.length_cons] at hlq
                refine ⟨fun hlt => ?_, fun hge => ?_⟩ <;> conv => whnf
                · have hlt : (d : Int) - 1 ≤ 9 := hlt
                  have hsame := (fun hgo : goes g (mvReq cl n a b d) = false => (⟨by show d + 1 ≤ 11; omega, by show (q2 :: qs2) = cur g cl n a b (d + 1); rw [cur_y, ← hes2, mv1, hgo]; simp⟩ : MvInv 11 (cur g cl n a b) ⟨d + 1, (q2 :: qs2)⟩))
                  have hrow : ([.int .i64 cl, .int .i64 (IntKind.i64.wrap (intAt g.last (cl - 1) + 1)), .int .i64 ((a : Int) + 1), .int .i64 ((b : Int) - 1), .int .i64 ((d : Int) - 1)] : List D) = encReq (mvReq cl n a b d) := by rw [hw, ← hn]; rfl
                  have harg : V.agg [vi cl, vi (IntKind.i64.wrap (intAt g.last (cl - 1) + 1)), vi ((a : Int) + 1), vi ((b : Int) - 1), vi ((d : Int) - 1)] = vReq (mvReq cl n a b d) := by rw [hwn]; rfl
                  refine ⟨by rw [wc]; omega, encI (intAt g.last (cl - 1)), by rw [wc]; exact intAt_row (l := g.last) (by omega) (by omega), ?_⟩
                  conv => whnf
                  refine call_bool' (reqOk_ok (mvReq cl n a b d)) (congrArg (fun z => [z]) harg) (fun hR => ?_) (fun hR => ?_) <;> conv => whnf
                  · refine doYes_use hI hD (a := fa) (b := fb) (c := fc) hok hR (congrArg (fun z => [vGame fa fb fc g, z]) harg) fun x1 x2 x3 => ?_
                    conv => whnf
                    refine ⟨fun hz => ?_, fun hz => ?_⟩ <;> conv => whnf
                    · have hgo : goes g (mvReq cl n a b d) = true := by unfold goes; rw [hR]; simpa using hz
                      refine ⟨by simp, room (by simp; omega) rfl, room' (by simp; omega), ?_⟩
                      conv => whnf
                      have happ : (q2 :: qs2).map encReq ++ [[.int .i64 cl, .int .i64 (IntKind.i64.wrap (intAt g.last (cl - 1) + 1)), .int .i64 ((a : Int) + 1), .int .i64 ((b : Int) - 1), .int .i64 ((d : Int) - 1)]] = (q2 :: (qs2 ++ [mvReq cl n a b d])).map encReq := by rw [hrow]; simp
                      have hgrow : ((q2 :: qs2).map encReq).length + 1 = (qs2 ++ [mvReq cl n a b d]).length + 1 := by simp
                      exact ⟨⟨⟨d + 1, (q2 :: (qs2 ++ [mvReq cl n a b d]))⟩, ⟨by show d + 1 ≤ 11; omega, by show (q2 :: (qs2 ++ [mvReq cl n a b d])) = cur g cl n a b (d + 1); rw [cur_y, ← hes2, mv1, hgo]; rfl⟩⟩, by show 11 - (d + 1) < 11 - d; omega, ⟨(weakSl_cons (congrArg (fun z => V.osl 67 5 z) happ) rfl (weakSl_cons rfl rfl (weakSl_cons rfl rfl (weakSl_cons rfl rfl (weakSl_cons rfl rfl (weakSl_cons (stepB d (by omega)) rfl weakSl_nil)))))), (weakHp_cons rfl rfl (weakHp_cons (congrArg (fun z => Obj.grow 5 z) hgrow) rfl weakHp_nil)), rfl⟩⟩
                    · exact ⟨⟨⟨d + 1, (q2 :: qs2)⟩, hsame (by unfold goes; rw [hR]; simpa using hz)⟩, by show 11 - (d + 1) < 11 - d; omega, ⟨(weakSl_cons rfl rfl (weakSl_cons rfl rfl (weakSl_cons rfl rfl (weakSl_cons rfl rfl (weakSl_cons rfl rfl (weakSl_cons (stepB d (by omega)) rfl weakSl_nil)))))), (weakHp_cons rfl rfl (weakHp_cons rfl rfl weakHp_nil)), rfl⟩⟩
                  · exact ⟨⟨⟨d + 1, (q2 :: qs2)⟩, hsame (by unfold goes; rw [hR]; rfl)⟩, by show 11 - (d + 1) < 11 - d; omega, ⟨(weakSl_cons rfl rfl (weakSl_cons rfl rfl (weakSl_cons rfl rfl (weakSl_cons rfl rfl (weakSl_cons rfl rfl (weakSl_cons (stepB d (by omega)) rfl weakSl_nil)))))), (weakHp_cons rfl rfl (weakHp_cons rfl rfl weakHp_nil)), rfl⟩⟩
                · have hge : ¬ (d : Int) - 1 ≤ 9 := hge
                  have hd11 : d = 11 := by omega
                  exact ⟨⟨⟨b + 1, (q2 :: qs2)⟩, ⟨by show b + 1 ≤ 6; omega, by show (q2 :: qs2) = cur g cl n a (b + 1) 0; rw [cur_x, ← hd11]; exact hes2⟩⟩, by show 6 - (b + 1) < 6 - b; omega, ⟨(weakSl_cons rfl rfl (weakSl_cons rfl rfl (weakSl_cons rfl rfl (weakSl_cons rfl rfl (weakSl_cons (stepB b (by omega)) rfl weakSl_nil))))), (weakHp_cons rfl rfl (weakHp_cons rfl rfl weakHp_nil)), rfl⟩⟩
            · have hge : ¬ (b : Int) - 1 ≤ 4 := hge
              have hb6 : b = 6 := by omega
              exact ⟨⟨⟨a + 1, []⟩, ⟨by show a + 1 ≤ 5; omega, by show [] = cur g cl n (a + 1) 0 0; rw [cur_o, ← hb6]; exact hes1⟩⟩, by show 5 - (a + 1) < 5 - a; omega, ⟨(weakSl_cons rfl rfl (weakSl_cons rfl rfl (weakSl_cons rfl rfl (weakSl_cons (stepA a (by omega)) rfl weakSl_nil)))), (weakHp_cons rfl rfl weakHp_nil), rfl⟩⟩
          | cons q1 qs1 =>
            conv => whnf
            refine ⟨fun hlt => ?_, fun hge => ?_⟩ <;> conv => whnf
            · have hlt : (b : Int) - 1 ≤ 4 := hlt
              refine ⟨{ x : MIx // MvInv 11 (cur g cl n a b) x }, fun x => MS 67 (.box [.d (dEnts fa g.ents), .d (dInts fb g.floor), .d (dInts fc g.last)]) [(1, vi cl), (2, .ref 2 0 0 0), (6, vi ((a : Int) + 1)), (7, vi ((b : Int) - 1)), (8, vi ((x.1.i : Int) - 1))] x.1.es, fun x => 11 - x.1.i, ⟨⟨0, (q1 :: qs1)⟩, ⟨by simp, hes1⟩⟩, ?_, ?_⟩
              · exact ⟨(weakSl_cons rfl rfl (weakSl_cons rfl rfl (weakSl_cons rfl rfl (weakSl_cons rfl rfl (weakSl_cons rfl rfl (weakSl_cons rfl rfl weakSl_nil)))))), (weakHp_cons rfl rfl (weakHp_cons rfl rfl weakHp_nil)), rfl⟩
              rintro ⟨⟨d, es2⟩, hinv2⟩
              have hd : d ≤ 11 := hinv2.i
              have hes2 : es2 = cur g cl n a b d := hinv2.es
              cases es2 with
              | nil =>
                conv => whnf
                refine ⟨fun hlt => ?_, fun hge => ?_⟩ <;> conv => whnf
                · have hlt : (d : Int) - 1 ≤ 9 := hlt
                  have hsame := (fun hgo : goes g (mvReq cl n a b d) = false => (⟨by show d + 1 ≤ 11; omega, by show [] = cur g cl n a b (d + 1); rw [cur_y, ← hes2, mv1, hgo]; simp⟩ : MvInv 11 (cur g cl n a b) ⟨d + 1, []⟩))
                  have hrow : ([.int .i64 cl, .int .i64 (IntKind.i64.wrap (intAt g.last (cl - 1) + 1)), .int .i64 ((a : Int) + 1), .int .i64 ((b : Int) - 1), .int .i64 ((d : Int) - 1)] : List D) = encReq (mvReq cl n a b d) := by rw [hw, ← hn]; rfl
                  have harg : V.agg [vi cl, vi (IntKind.i64.wrap (intAt g.last (cl - 1) + 1)), vi ((a : Int) + 1), vi ((b : Int) - 1), vi ((d : Int) - 1)] = vReq (mvReq cl n a b d) := by rw [hwn]; rfl
                  refine ⟨by rw [wc]; omega, encI (intAt g.last (cl - 1)), by rw [wc]; exact intAt_row (l := g.last) (by omega) (by omega), ?_⟩
                  conv => whnf
                  refine call_bool' (reqOk_ok (mvReq cl n a b d)) (congrArg (fun z => [z]) harg) (fun hR => ?_) (fun hR => ?_) <;> conv => whnf
                  · refine doYes_use hI hD (a := fa) (b := fb) (c := fc) hok hR (congrArg (fun z => [vGame fa fb fc g, z]) harg) fun x1 x2 x3 => ?_
                    conv => whnf
                    refine ⟨fun hz => ?_, fun hz => ?_⟩ <;> conv => whnf
                    · have hgo : goes g (mvReq cl n a b d) = true := by unfold goes; rw [hR]; simpa using hz
                      refine ⟨room (by simp) rfl, room' (by simp), ?_⟩
                      conv => whnf
                      exact ⟨⟨⟨d + 1, [mvReq cl n a b d]⟩, ⟨by show d + 1 ≤ 11; omega, by show [mvReq cl n a b d] = cur g cl n a b (d + 1); rw [cur_y, ← hes2, mv1, hgo]; rfl⟩⟩, by show 11 - (d + 1) < 11 - d; omega, ⟨(weakSl_cons (congrArg (fun z => V.osl 67 5 [z]) hrow) rfl (weakSl_cons rfl rfl (weakSl_cons rfl rfl (weakSl_cons rfl rfl (weakSl_cons rfl rfl (weakSl_cons (stepB d (by omega)) rfl weakSl_nil)))))), (weakHp_cons rfl rfl (weakHp_cons rfl rfl weakHp_nil)), rfl⟩⟩
                    · exact ⟨⟨⟨d + 1, []⟩, hsame (by unfold goes; rw [hR]; simpa using hz)⟩, by show 11 - (d + 1) < 11 - d; omega, ⟨(weakSl_cons rfl rfl (weakSl_cons rfl rfl (weakSl_cons rfl rfl (weakSl_cons rfl rfl (weakSl_cons rfl rfl (weakSl_cons (stepB d (by omega)) rfl weakSl_nil)))))), (weakHp_cons rfl rfl weakHp_nil), rfl⟩⟩
                  · exact ⟨⟨⟨d + 1, []⟩, hsame (by unfold goes; rw [hR]; rfl)⟩, by show 11 - (d + 1) < 11 - d; omega, ⟨(weakSl_cons rfl rfl (weakSl_cons rfl rfl (weakSl_cons rfl rfl (weakSl_cons rfl rfl (weakSl_cons rfl rfl (weakSl_cons (stepB d (by omega)) rfl weakSl_nil)))))), (weakHp_cons rfl rfl weakHp_nil), rfl⟩⟩
                · have hge : ¬ (d : Int) - 1 ≤ 9 := hge
                  have hd11 : d = 11 := by omega
                  exact ⟨⟨⟨b + 1, []⟩, ⟨by show b + 1 ≤ 6; omega, by show [] = cur g cl n a (b + 1) 0; rw [cur_x, ← hd11]; exact hes2⟩⟩, by show 6 - (b + 1) < 6 - b; omega, ⟨(weakSl_cons rfl rfl (weakSl_cons rfl rfl (weakSl_cons rfl rfl (weakSl_cons rfl rfl (weakSl_cons (stepB b (by omega)) rfl weakSl_nil))))), (weakHp_cons rfl rfl weakHp_nil), rfl⟩⟩
              | cons q2 qs2 =>
                conv => whnf
                have hlq : (q2 :: qs2).length ≤ 500 := by rw [hes2]; exact cur_len (by omega) (by omega) (by omega)
                simp only [List.length_cons] at hlq
                refine ⟨fun hlt => ?_, fun hge => ?_⟩ <;> conv => whnf
                · have hlt : (d : Int) - 1 ≤ 9 := hlt
                  have hsame := (fun hgo : goes g (mvReq cl n a b d) = false => (⟨by show d + 1 ≤ 11; omega, by show (q2 :: qs2) = cur g cl n a b (d + 1); rw [cur_y, ← hes2, mv1, hgo]; simp⟩ : MvInv 11 (cur g cl n a b) ⟨d + 1, (q2 :: qs2)⟩))
                  have hrow : ([.int .i64 cl, .int .i64 (IntKind.i64.wrap (intAt g.last (cl - 1) + 1)), .int .i64 ((a : Int) + 1), .int .i64 ((b : Int) - 1), .int .i64 ((d : Int) - 1)] : List D) = encReq (mvReq cl n a b d) := by rw [hw, ← hn]; rfl
                  have harg : V.agg [vi cl, vi (IntKind.i64.wrap (intAt g.last (cl - 1) + 1)), vi ((a : Int) + 1), vi ((b : Int) - 1), vi ((d : Int) - 1)] = vReq (mvReq cl n a b d) := by rw [hwn]; rfl
                  refine ⟨by rw [wc]; omega, encI (intAt g.last (cl - 1)), by rw [wc]; exact intAt_row (l := g.last) (by omega) (by omega), ?_⟩
                  conv => whnf
                  refine call_bool' (reqOk_ok (mvReq cl n a b d)) (congrArg (fun z => [z]) harg) (fun hR => ?_) (fun hR => ?_) <;> conv => whnf
                  · refine doYes_use hI hD (a := fa) (b := fb) (c := fc) hok hR (congrArg (fun z => [vGame fa fb fc g, z]) harg) fun x1 x2 x3 => ?_
                    conv => whnf
                    refine ⟨fun hz => ?_, fun hz => ?_⟩ <;> conv => whnf
                    · have hgo : goes g (mvReq cl n a b d) = true := by unfold goes; rw [hR]; simpa using hz
                      refine ⟨by simp, room (by simp; omega) rfl, room' (by simp; omega), ?_⟩
                      conv => whnf
                      have happ : (q2 :: qs2).map encReq ++ [[.int .i64 cl, .int .i64 (IntKind.i64.wrap (intAt g.last (cl - 1) + 1)), .int .i64 ((a : Int) + 1), .int .i64 ((b : Int) - 1), .int .i64 ((d : Int) - 1)]] = (q2 :: (qs2 ++ [mvReq cl n a b d])).map encReq := by rw [hrow]; simp
                      have hgrow : ((q2 :: qs2).map encReq).length + 1 = (qs2 ++ [mvReq cl n a b d]).length + 1 := by simp
                      exact ⟨⟨⟨d + 1, (q2 :: (qs2 ++ [mvReq cl n a b d]))⟩, ⟨by show d + 1 ≤ 11; omega, by show (q2 :: (qs2 ++ [mvReq cl n a b d])) = cur g cl n a b (d + 1); rw [cur_y, ← hes2, mv1, hgo]; rfl⟩⟩, by show 11 - (d + 1) < 11 - d; omega, ⟨(weakSl_cons (congrArg (fun z => V.osl 67 5 z) happ) rfl (weakSl_cons rfl rfl (weakSl_cons rfl rfl (weakSl_cons rfl rfl (weakSl_cons rfl rfl (weakSl_cons (stepB d (by omega)) rfl weakSl_nil)))))), (weakHp_cons rfl rfl (weakHp_cons (congrArg (fun z => Obj.grow 5 z) hgrow) rfl weakHp_nil)), rfl⟩⟩
                    · exact ⟨⟨⟨d + 1, (q2 :: qs2)⟩, hsame (by unfold goes; rw [hR]; simpa using hz)⟩, by show 11 - (d + 1) < 11 - d; omega, ⟨(weakSl_cons rfl rfl (weakSl_cons rfl rfl (weakSl_cons rfl rfl (weakSl_cons rfl rfl (weakSl_cons rfl rfl (weakSl_cons (stepB d (by omega)) rfl weakSl_nil)))))), (weakHp_cons rfl rfl (weakHp_cons rfl rfl weakHp_nil)), rfl⟩⟩
                  · exact ⟨⟨⟨d + 1, (q2 :: qs2)⟩, hsame (by unfold goes; rw [hR]; rfl)⟩, by show 11 - (d + 1) < 11 - d; omega, ⟨(weakSl_cons rfl rfl (weakSl_cons rfl rfl (weakSl_cons rfl rfl (weakSl_cons rfl rfl (weakSl_cons rfl rfl (weakSl_cons (stepB d (by omega)) rfl weakSl_nil)))))), (weakHp_cons rfl rfl (weakHp_cons rfl rfl weakHp_nil)), rfl⟩⟩
                · have hge : ¬ (d : Int) - 1 ≤ 9 := hge
                  have hd11 : d = 11 := by omega
                  exact ⟨⟨⟨b + 1, (q2 :: qs2)⟩, ⟨by show b + 1 ≤ 6; omega, by show (q2 :: qs2) = cur g cl n a (b + 1) 0; rw [cur_x, ← hd11]; exact hes2⟩⟩, by show 6 - (b + 1) < 6 - b; omega, ⟨(weakSl_cons rfl rfl (weakSl_cons rfl rfl (weakSl_cons rfl rfl (weakSl_cons rfl rfl (weakSl_cons (stepB b (by omega)) rfl weakSl_nil))))), (weakHp_cons rfl rfl (weakHp_cons rfl rfl weakHp_nil)), rfl⟩⟩
            · have hge : ¬ (b : Int) - 1 ≤ 4 := hge
              have hb6 : b = 6 := by omega
              exact ⟨⟨⟨a + 1, (q1 :: qs1)⟩, ⟨by show a + 1 ≤ 5; omega, by show (q1 :: qs1) = cur g cl n (a + 1) 0 0; rw [cur_o, ← hb6]; exact hes1⟩⟩, by show 5 - (a + 1) < 5 - a; omega, ⟨(weakSl_cons rfl rfl (weakSl_cons rfl rfl (weakSl_cons rfl rfl (weakSl_cons (stepA a (by omega)) rfl weakSl_nil)))), (weakHp_cons rfl rfl (weakHp_cons rfl rfl weakHp_nil)), rfl⟩⟩
        · have hge : ¬ (a : Int) + 1 ≤ 5 := hge
          have ha5 : a = 5 := by omega
          have hes5 : (q0 :: qs0) = cur g cl n 5 0 0 := by rw [← ha5]; exact hes0
          refine call_eq (clipR_ok false ((q0 :: qs0).map encReq)) ?_
          conv => whnf
          refine (?_ : V.d _ = seeMvI g cl)
          rw [seeMvI, if_pos hyes, ← hn, ← hes5] <;> rfl
    · exact no (fun h => by have := h.2.1; rw [hin] at this; simp at this) rfl
  · exact no (fun h => by have := h.1; rw [hok] at this; simp at this) rfl
end Go.Proofs.Ytnnmkenloijkcaa
/- The order of asks. -/
set_option linter.unusedVariables false
set_option linter.unusedSimpArgs false
set_option maxRecDepth 10000
namespace Go.Proofs.Ytnnmkenloijkcaa
open Go Eng

def cmpI (a b : Int) : Int := if a < b then -1 else if b < a then 1 else 0
theorem isNaN_ok (n : Int) : ACalls Try.prog G0 82 [vi n] (· = vb false) := by
  refine spec_intro tabOk Try.func82 (by kernel_rfl) rfl ?_
  conv => whnf
  refine ⟨fun h => absurd rfl h, fun _ => ?_⟩
  conv => whnf
  rfl
theorem compare_ok (a b : Int) : ACalls Try.prog G0 57 [vi a, vi b] (· = vi (cmpI a b)) := by
  refine spec_intro tabOk Try.func57 (by kernel_rfl) rfl ?_
  conv => whnf
  refine call_eq (isNaN_ok a) ?_
  conv => whnf
  refine call_eq (isNaN_ok b) ?_
  conv => whnf
  refine ⟨fun h => ?_, fun h => ?_⟩ <;> conv => whnf
  · exact congrArg vi (by rw [cmpI, if_pos h])
  refine ⟨fun h2 => ?_, fun h2 => ?_⟩ <;> conv => whnf
  · exact congrArg vi (by rw [cmpI, if_neg h, if_pos h2])
  · exact congrArg vi (by rw [cmpI, if_neg h, if_neg h2])
def orF : List Int → Int
  | [] => 0
  | n :: r => if n ≠ 0 then n else orF r
theorem orF_at : ∀ {l : List Int} {i : Nat} {n : Int}, l[i]? = some n → n ≠ 0 → (∀ (j : Nat) x, j < i → l[j]? = some x → x = 0) → orF l = n
  | [], i, n, h, _, _ => by simp at h
  | a :: l, 0, n, h, hn, _ => by simp at h; subst h; rw [orF, if_pos hn]
  | a :: l, i + 1, n, h, hn, hp => by
    have := hp 0 a (by omega) rfl
    rw [orF, if_neg (by simpa using this)]
    exact orF_at (by simpa using h) hn fun j x hj hx => hp (j + 1) x (by omega) (by simpa using hx)
theorem orF_zero : ∀ {l : List Int}, (∀ (j : Nat) x, l[j]? = some x → x = 0) → orF l = 0
  | [], _ => rfl
  | a :: l, hp => by
    have := hp 0 a rfl
    rw [orF, if_neg (by simpa using this)]
    exact orF_zero fun j x hx => hp (j + 1) x (by simpa using hx)
theorem or_ok (f : Bool) (l : List Int) : ACalls Try.prog G0 56 [.d (dInts f l)] (· = vi (orF l)) := by
  refine spec_intro tabOk Try.func56 (by kernel_rfl) rfl ?_
  conv => whnf
  intro hlen
  have hlen := le_map hlen
  let P : Nat → Prop := fun i => ∀ (j : Nat) x, j < i → l[j]? = some x → x = 0
  let I : Nat → SL := fun i => ⟨[(3, vi 0), (6, .d (dInts f l)), (7, vi (l.map encI).length), (8, vi i)], []⟩
  refine loop_up l.length P I (by intro j n h; omega) ?_ ?_
  · refine ⟨?_, ?_, rfl⟩ <;> repeat' (first | exact weakSl_nil | exact weakHp_nil | refine weakSl_cons ?_ rfl ?_ | refine weakHp_cons ?_ rfl ?_)
    all_goals rfl
  intro i hi hP
  conv => whnf
  refine ⟨fun hlt => ?_, fun hge => ?_⟩ <;> conv => whnf
  · have hlt := lt_map hlt
    refine (entsAt hlt).elim fun n hn => ?_
    refine ⟨by omega, encI n, row_map hn, ?_⟩
    conv => whnf
    refine ⟨fun h => ?_, fun h => ?_⟩ <;> conv => whnf
    · exact congrArg vi (orF_at hn h hP).symm
    · exact up_next hlt (fun j x hj hx => by
        by_cases hji : j = i
        · subst hji; rw [hn] at hx; injection hx with hx; subst hx; exact Classical.not_not.1 h
        · exact hP j x (by omega) hx) ⟨weakSl_cons rfl rfl (weakSl_cons rfl rfl (weakSl_cons rfl rfl (weakSl_cons (wrap_succ (by omega)) rfl weakSl_nil))), weakHp_nil, rfl⟩
  have hin := ge_map hge hi
  subst hin
  exact congrArg vi (orF_zero fun j x hj => hP j x (List.getElem?_eq_some_iff.1 hj).1 hj).symm
def lessB (p q : Req) : Bool := decide (orF [cmpI p.client q.client, cmpI p.num q.num, cmpI p.op q.op, cmpI p.x q.x, cmpI p.y q.y] < 0)
theorem less_ok (p q : Req) : ACalls Try.prog G0 22 [vReq p, vReq q] (· = vb (lessB p q)) := by
  refine spec_intro tabOk Try.func22 (by kernel_rfl) rfl ?_
  conv => whnf
  refine drawn_eq (compare_ok _ _) ?_
  conv => whnf
  refine drawn_eq (compare_ok _ _) ?_
  conv => whnf
  refine drawn_eq (compare_ok _ _) ?_
  conv => whnf
  refine drawn_eq (compare_ok _ _) ?_
  conv => whnf
  refine drawn_eq (compare_ok _ _) ?_
  conv => whnf
  refine drawn_eq (or_ok true [cmpI p.client q.client, cmpI p.num q.num, cmpI p.op q.op, cmpI p.x q.x, cmpI p.y q.y]) ?_
  conv => whnf
  refine ⟨fun h => ?_, fun h => ?_⟩ <;> conv => whnf
  · exact congrArg vb (by simp only [lessB, decide_eq_true h])
  · exact congrArg vb (by simp only [lessB, decide_eq_false h])
theorem drawMoves_ok (full : Bool) (bs : List Int) (hb : Bytes bs) : ACalls Try.prog G0 18 [.d (.slc full 1 (bs.map encB))] (fun r => ∃ a b c g cl, r = .tup [vGame a b c g, vi cl]) := by
  refine spec_own tabOk Try.func18 (by kernel_rfl) [] [] rfl ?_
  conv => whnf
  refine ⟨_, see_ok full bs hb, fun r ⟨a, b, c, g, cl, e⟩ => ?_⟩
  subst e
  conv => whnf
  exact ⟨a, b, c, g, cl, rfl⟩
end Go.Proofs.Ytnnmkenloijkcaa
/- What the list of asks that go is like. -/
set_option linter.unusedVariables false
set_option linter.unusedSimpArgs false
namespace Go.Proofs.Ytnnmkenloijkcaa
open Go Eng

theorem cmpI_self (a : Int) : cmpI a a = 0 := by simp [cmpI]
theorem less_mv {c n : Int} {a b d a' b' d' : Nat} (hb : b ≤ 5) (hd : d ≤ 10) (hb' : b' ≤ 5) (hd' : d' ≤ 10) (h : a * 66 + b * 11 + d < a' * 66 + b' * 11 + d') : lessB (mvReq c n a b d) (mvReq c n a' b' d') = true := by
  unfold lessB mvReq
  simp only [cmpI_self, orF, ne_eq, not_true_eq_false, if_false, decide_eq_true_eq]
  by_cases h1 : a < a'
  · have : cmpI ((a : Int) + 1) ((a' : Int) + 1) = -1 := by rw [cmpI, if_pos (by omega)]
    rw [this]; simp
  have ha : a = a' := by omega
  subst ha
  rw [cmpI_self]
  by_cases h2 : b < b'
  · have : cmpI ((b : Int) - 1) ((b' : Int) - 1) = -1 := by rw [cmpI, if_pos (by omega)]
    rw [this]; simp
  have hbb : b = b' := by omega
  subst hbb
  rw [cmpI_self]
  have : cmpI ((d : Int) - 1) ((d' : Int) - 1) = -1 := by rw [cmpI, if_pos (by omega)]
  rw [this]; simp

structure Mv (g : Game) (c n : Int) (L : List Req) (N : Nat) : Prop where
  mem : ∀ r ∈ L, ∃ a b d : Nat, b ≤ 5 ∧ d ≤ 10 ∧ a * 66 + b * 11 + d < N ∧ r = mvReq c n a b d ∧ goes g r = true
  ord : L.Pairwise (fun p q => lessB p q = true)
theorem mv_step {g : Game} {c n : Int} {L : List Req} {a b d : Nat} (h : Mv g c n L (a * 66 + b * 11 + d)) (hb : b ≤ 5) (hd : d ≤ 10) : Mv g c n (L ++ mv1 g c n a b d) (a * 66 + b * 11 + d + 1) := by
  unfold mv1
  cases hg : goes g (mvReq c n a b d) with
  | false =>
    simp only [List.append_nil]
    exact ⟨fun r hr => by obtain ⟨a', b', d', h1, h2, h3, h4⟩ := h.mem r hr; exact ⟨a', b', d', h1, h2, by omega, h4⟩, h.ord⟩
  | true =>
    refine ⟨fun r hr => ?_, List.pairwise_append.2 ⟨h.ord, List.pairwise_singleton _ _, fun p hp q hq => ?_⟩⟩
    · rcases List.mem_append.1 hr with hr | hr
      · obtain ⟨a', b', d', h1, h2, h3, h4⟩ := h.mem r hr; exact ⟨a', b', d', h1, h2, by omega, h4⟩
      · simp at hr; subst hr; exact ⟨a, b, d, hb, hd, by omega, rfl, hg⟩
    · obtain ⟨a', b', d', h1, h2, h3, h4, _⟩ := h.mem p hp
      simp at hq; subst hq; subst h4
      exact less_mv h1 h2 hb hd h3
theorem mv_y {g : Game} {c n : Int} {a b : Nat} (hb : b ≤ 5) (h : Mv g c n (cur g c n a b 0) (a * 66 + b * 11)) : ∀ d, d ≤ 11 → Mv g c n (cur g c n a b d) (a * 66 + b * 11 + d)
  | 0, _ => h
  | d + 1, hd => by rw [cur_y]; exact mv_step (mv_y hb h d (by omega)) hb (by omega)
theorem mv_x {g : Game} {c n : Int} {a : Nat} (h : Mv g c n (cur g c n a 0 0) (a * 66)) : ∀ b, b ≤ 6 → Mv g c n (cur g c n a b 0) (a * 66 + b * 11)
  | 0, _ => by simpa using h
  | b + 1, hb => by
    rw [cur_x]
    have := mv_y (by omega) (mv_x h b (by omega)) 11 (by omega)
    have e : a * 66 + (b + 1) * 11 = a * 66 + b * 11 + 11 := by omega
    rw [e]; exact this
theorem mv_o {g : Game} {c n : Int} : ∀ a, Mv g c n (cur g c n a 0 0) (a * 66)
  | 0 => ⟨by simp [cur, accO, accX, accY], by simp [cur, accO, accX, accY]⟩
  | a + 1 => by
    rw [cur_o]
    have := mv_x (mv_o (g := g) (c := c) (n := n) a) 6 (by omega)
    have e : (a + 1) * 66 = a * 66 + 6 * 11 := by omega
    rw [e]; exact this
theorem mv_all (g : Game) (c n : Int) : Mv g c n (cur g c n 5 0 0) 330 := mv_o 5

theorem goes_ok {g : Game} {r : Req} (h : goes g r = true) : okR r = true ∧ (doI g r).2 = 0 := by
  unfold goes at h
  simpa using h
/-- Without a figure only to join goes. -/
theorem goes_off {g : Game} {r : Req} (h : goes g r = true) (hat : atF g.ents r.client < 0) : r.op = 1 ∧ r.x = 0 ∧ r.y = 0 := by
  obtain ⟨h1, h2⟩ := goes_ok h
  have ho : r.op = 1 := by
    apply Classical.byContradiction
    intro ho
    unfold doI at h2
    split at h2
    · simp at h2
    · split at h2
      · simp at h2
      · have : stepV ⟨true, true, true, noted g r⟩ r = (⟨true, true, true, noted g r⟩, 5) := by
          unfold stepV
          rw [if_neg ho, if_pos (show atF (noted g r).ents r.client < 0 from hat)]
        rw [this] at h2; simp at h2
  unfold okR at h1
  simp only [Bool.and_eq_true] at h1
  have h3 := h1.2.2
  rw [if_pos (.inl ho)] at h3
  simp at h3
  exact ⟨ho, h3⟩
theorem mv_off {g : Game} {c n : Int} (hat : atF g.ents c < 0) : ∀ r ∈ cur g c n 5 0 0, r = ⟨c, n, 1, 0, 0⟩ := fun r hr => by
  obtain ⟨a, b, d, h1, h2, h3, h4, h5⟩ := (mv_all g c n).mem r hr
  subst h4
  have := goes_off h5 hat
  simp only [mvReq] at this ⊢
  obtain ⟨q1, q2, q3⟩ := this
  rw [q1, q2, q3]
theorem less_irr (r : Req) : lessB r r = false := by simp [lessB, cmpI_self, orF]
theorem mv_off_len {g : Game} {c n : Int} (hat : atF g.ents c < 0) : (cur g c n 5 0 0).length ≤ 1 := by
  have hall := mv_off (n := n) hat
  have hord := (mv_all g c n).ord
  cases hL : cur g c n 5 0 0 with
  | nil => simp
  | cons p L =>
    cases L with
    | nil => simp
    | cons q L =>
      rw [hL] at hord hall
      have h1 := hall p (by simp)
      have h2 := hall q (by simp)
      have := (List.pairwise_cons.1 hord).1 q (by simp)
      rw [h1, h2, less_irr] at this
      simp at this
end Go.Proofs.Ytnnmkenloijkcaa
/- The program's list of what goes, made of what may be written, into what may be written. -/
set_option linter.unusedVariables false
set_option linter.unusedSimpArgs false
set_option maxRecDepth 10000
namespace Go.Proofs.Ytnnmkenloijkcaa
open Go Eng

theorem clipR_own0 (rows : List (List D)) : HCalls Try.prog G0 52 (hpOf [(67, .arr false 5 rows)]) [.own 67] (fun r l => r = .own 8 ∧ l = [(67, .dead), (8, .arr true 5 rows)]) := by
  refine hspec tabOk Try.func52 (by kernel_rfl) true [8] [] rfl ?_
  conv => whnf
  intro _
  conv => whnf
  intro _
  conv => whnf
  refine ⟨rfl, rfl, ?_⟩
  conv => whnf
  exact ⟨[(67, .dead), (8, .arr true 5 rows)], ⟨weakHp_cons rfl rfl (weakHp_cons rfl rfl weakHp_nil), rfl, rfl⟩, rfl, rfl, rfl⟩
theorem clipR_own1 (rows : List (List D)) : HCalls Try.prog G0 52 (hpOf [(1000067, .arr false 5 rows)]) [.own 1000067] (fun r l => r = .own 8 ∧ l = [(1000067, .dead), (8, .arr true 5 rows)]) := by
  refine hspec tabOk Try.func52 (by kernel_rfl) true [8] [] rfl ?_
  conv => whnf
  intro _
  conv => whnf
  intro _
  conv => whnf
  refine ⟨rfl, rfl, ?_⟩
  conv => whnf
  exact ⟨[(1000067, .dead), (8, .arr true 5 rows)], ⟨weakHp_cons rfl rfl (weakHp_cons rfl rfl weakHp_nil), rfl, rfl⟩, rfl, rfl, rfl⟩
theorem clipR_f (rows : List (List D)) : HCalls Try.prog G0 52 (hpOf [(67, .arr false 5 rows)]) [.own 67] (fun r l => r = .own 100 ∧ l = [(67, .dead), (100, .arr true 5 rows)]) :=
  HCalls.swap (hin := [(67, .arr false 5 rows)]) (args := [.own 67]) (clipR_own0 rows) 8 100 (by rintro r k ⟨rfl, rfl⟩; exact ⟨rfl, rfl⟩)
theorem clipR_t (rows : List (List D)) : HCalls Try.prog G0 52 (hpOf [(1000067, .arr false 5 rows)]) [.own 1000067] (fun r l => r = .own 100 ∧ l = [(1000067, .dead), (100, .arr true 5 rows)]) :=
  HCalls.swap (hin := [(1000067, .arr false 5 rows)]) (args := [.own 1000067]) (clipR_own1 rows) 8 100 (by rintro r k ⟨rfl, rfl⟩; exact ⟨rfl, rfl⟩)

def v5 (es : List Req) (k : Bool) : V := match es with | [] => .d (.slc true 5 []) | _ :: _ => match k with | false => .own 67 | true => .own 1000067
def o5 (es : List Req) (k : Bool) : HP := match es with
  | [] => []
  | r :: rs => match k with | false => [(67, .arr false 5 ((r :: rs).map encReq))] | true => [(1000067, .arr false 5 ((r :: rs).map encReq))]
abbrev base5 (g : Game) : HP := [(2, .box [.own 5, .own 8, .own 11]), (5, .arr true 5 (g.ents.map encEnt)), (8, .arr true 1 (g.floor.map encI)), (11, .arr true 1 (g.last.map encI))]
def MX (g : Game) (sl : List (Nat × V)) (es : List Req) (k : Bool) : SL := ⟨sl ++ [(5, v5 es k)], base5 g ++ o5 es k⟩
theorem weakSl_app {s : St} {ids : List Nat} : ∀ {a b : List (Nat × V)}, weakSl s ids a → weakSl s ids b → weakSl s ids (a ++ b)
  | [], _, _, h => h
  | p :: a, b, h, h2 => ⟨h.1, h.2.1, weakSl_app h.2.2 h2⟩
theorem weakX {g : Game} {sl : List (Nat × V)} {es : List Req} {k : Bool} {s : St} (h5 : s.sl 5 = v5 es k) (hhp : s.hp = Eng.look .none (base5 g ++ o5 es k)) (hsl : ∀ ids, weakSl s (2 :: ids) sl) : Weak [5, 8, 11] s (MX g sl es k) := by
  refine ⟨?_, ?_, ?_⟩
  · refine weakSl_app (hsl _) (weakSl_cons h5 ?_ weakSl_nil)
    cases es with
    | nil => rfl
    | cons r rs => cases k <;> rfl
  · obtain ⟨ssl, shp⟩ := s
    simp only at hhp
    subst hhp
    cases es with
    | nil => exact weakHp_cons rfl rfl (weakHp_cons rfl rfl (weakHp_cons rfl rfl (weakHp_cons rfl rfl weakHp_nil)))
    | cons r rs => cases k <;> exact weakHp_cons rfl rfl (weakHp_cons rfl rfl (weakHp_cons rfl rfl (weakHp_cons rfl rfl (weakHp_cons rfl rfl weakHp_nil))))
  · cases es with
    | nil => rfl
    | cons r rs => cases k <;> rfl
/-- The same, behind an append. -/
theorem weakYnil {g : Game} {sl : List (Nat × V)} {k : Bool} {s : St} (h5 : s.sl 5 = .d (.slc true 5 [])) (h2 : s.hp 2 = .box [.own 5, .own 8, .own 11]) (h3 : s.hp 5 = .arr true 5 (g.ents.map encEnt)) (h4 : s.hp 8 = .arr true 1 (g.floor.map encI)) (h6 : s.hp 11 = .arr true 1 (g.last.map encI))
    (hsl : ∀ ids, weakSl s (2 :: ids) sl) : Weak [5, 8, 11] s (MX g sl [] k) :=
  ⟨weakSl_app (hsl _) (weakSl_cons h5 rfl weakSl_nil), weakHp_cons h2 rfl (weakHp_cons h3 rfl (weakHp_cons h4 rfl (weakHp_cons h6 rfl weakHp_nil))), rfl⟩
theorem weakYfalse {g : Game} {sl : List (Nat × V)} {r : Req} {rs : List Req} {s : St} (h5 : s.sl 5 = .own 67) (h2 : s.hp 2 = .box [.own 5, .own 8, .own 11]) (h3 : s.hp 5 = .arr true 5 (g.ents.map encEnt)) (h4 : s.hp 8 = .arr true 1 (g.floor.map encI)) (h6 : s.hp 11 = .arr true 1 (g.last.map encI))
    (h7 : s.hp 67 = .arr false 5 ((r :: rs).map encReq)) (hsl : ∀ ids, weakSl s (2 :: ids) sl) : Weak [5, 8, 11] s (MX g sl (r :: rs) false) :=
  ⟨weakSl_app (hsl _) (weakSl_cons h5 rfl weakSl_nil), weakHp_cons h2 rfl (weakHp_cons h3 rfl (weakHp_cons h4 rfl (weakHp_cons h6 rfl (weakHp_cons h7 rfl weakHp_nil)))), rfl⟩
theorem weakYtrue {g : Game} {sl : List (Nat × V)} {r : Req} {rs : List Req} {s : St} (h5 : s.sl 5 = .own 1000067) (h2 : s.hp 2 = .box [.own 5, .own 8, .own 11]) (h3 : s.hp 5 = .arr true 5 (g.ents.map encEnt)) (h4 : s.hp 8 = .arr true 1 (g.floor.map encI)) (h6 : s.hp 11 = .arr true 1 (g.last.map encI))
    (h7 : s.hp 1000067 = .arr false 5 ((r :: rs).map encReq)) (hsl : ∀ ids, weakSl s (2 :: ids) sl) : Weak [5, 8, 11] s (MX g sl (r :: rs) true) :=
  ⟨weakSl_app (hsl _) (weakSl_cons h5 rfl weakSl_nil), weakHp_cons h2 rfl (weakHp_cons h3 rfl (weakHp_cons h4 rfl (weakHp_cons h6 rfl (weakHp_cons h7 rfl weakHp_nil)))), rfl⟩
structure MIy where
  i : Nat
  es : List Req
  k : Bool
structure MyInv (m : Nat) (f : Nat → List Req) (x : MIy) : Prop where
  i : x.i ≤ m
  es : x.es = f x.i
open Classical in
/-- What goes, if anything can. -/
noncomputable def mvX (g : Game) (cl : Int) : List Req := if mvOk g cl then cur g cl (intAt g.last (cl - 1) + 1) 5 0 0 else []
def SeeL (g : Game) (cl : Int) (r : V) (l : HP) : Prop :=
  (r = .d (.slc true 5 []) ∧ l = ownG2 g ∧ mvX g cl = []) ∨ (r = .own 100 ∧ l = ownG2 g ++ [(100, .arr true 5 ((mvX g cl).map encReq))])

set_option maxHeartbeats 1000000 in
theorem seeMvI_own (hI : InsOk) (hD : DelOk) (g : Game) (cl : Int) : HCalls Try.prog G0 19 (hpOf (ownG2 g)) [ownV2, vi cl] (SeeL g cl) := by
  refine hspec_ln tabOk Try.func19 (by kernel_rfl) true [67] [52] [] [17] rfl ?_
  conv => whnf
  have no : ∀ {s : St}, s.hp 5 = .arr true 5 (g.ents.map encEnt) → s.hp 8 = .arr true 1 (g.floor.map encI) → s.hp 11 = .arr true 1 (g.last.map encI) → ¬ mvOk g cl → ∃ l, HRest s [5, 8, 11] l ∧ okV (l.map (·.1)) (.d (.slc true 5 [])) = true ∧ SeeL g cl (.d (.slc true 5 [])) l := fun h1 h2 h3 hn =>
    ⟨ownG2 g, ⟨weakHp_cons h1 rfl (weakHp_cons h2 rfl (weakHp_cons h3 rfl weakHp_nil)), rfl, rfl⟩, rfl, .inl ⟨rfl, rfl, by rw [mvX, if_neg hn]⟩⟩
  refine call_bool (gameOk_ok true true true g) (fun hok => ?_) (fun hok => ?_) <;> conv => whnf
  · refine call_bool (isClient_ok _) (fun hin => ?_) (fun hin => ?_) <;> conv => whnf
    · have hcl := inB_t.1 hin
      have hc1 := hcl.1
      have hc4 := hcl.2
      have hg := ok_good (of_okG hok)
      have hle := good_len hg
      have hnf := hg.nfloor
      have hnl := hg.nlast
      have wc : IntKind.i64.wrap (cl - 1) = cl - 1 := wrap_id (by omega) (by omega)
      have hl := hg.last _ (intAt_mem (l := g.last) (k := cl - 1) (by omega))
      refine ⟨by rw [wc]; omega, by rw [wc]; simp; omega, ?_⟩
      conv => whnf
      refine ⟨encI (intAt g.last (cl - 1)), by rw [wc]; exact intAt_row (l := g.last) (by omega) (by omega), ?_⟩
      conv => whnf
      refine ⟨fun h30 => ?_, fun h30 => ?_⟩ <;> conv => whnf
      · exact no rfl rfl rfl (fun h => h.2.2 (by omega))
      have hyes : mvOk g cl := ⟨hok, hin, by omega⟩
      have hw : IntKind.i64.wrap (intAt g.last (cl - 1) + 1) = intAt g.last (cl - 1) + 1 := wrap_id (by omega) (by omega)
      obtain ⟨n, hn⟩ : ∃ n, n = intAt g.last (cl - 1) + 1 := ⟨_, rfl⟩
      have hwn : vi (IntKind.i64.wrap (intAt g.last (cl - 1) + 1)) = vi n := congrArg vi (hw.trans hn.symm)
      have hnr : 1 ≤ n ∧ n ≤ 31 := by omega
      refine ⟨{ x : MIy // MyInv 5 (fun a => cur g cl n a 0 0) x }, fun x => MX g [(1, vi cl), (2, .ref 2 0 0 0), (6, vi ((x.1.i : Int) + 1))] x.1.es x.1.k, fun x => 5 - x.1.i, ⟨⟨0, [], false⟩, ⟨by simp, rfl⟩⟩, ?_, ?_⟩
      · exact weakX rfl rfl fun _ => weakSl_cons rfl rfl (weakSl_cons rfl rfl (weakSl_cons rfl rfl weakSl_nil))
      rintro ⟨⟨a, es0, k0⟩, hinv0⟩
      have ha : a ≤ 5 := hinv0.i
      have hes0 : es0 = cur g cl n a 0 0 := hinv0.es
      conv => whnf
      refine ⟨fun hlt => ?_, fun hge => ?_⟩ <;> conv => whnf
      · have hlt : (a : Int) + 1 ≤ 5 := hlt
        refine ⟨{ x : MIy // MyInv 6 (fun b => cur g cl n a b 0) x }, fun x => MX g [(1, vi cl), (2, .ref 2 0 0 0), (6, vi ((a : Int) + 1)), (7, vi ((x.1.i : Int) - 1))] x.1.es x.1.k, fun x => 6 - x.1.i, ⟨⟨0, es0, k0⟩, ⟨by simp, hes0⟩⟩, ?_, ?_⟩
        · exact weakX rfl rfl fun _ => weakSl_cons rfl rfl (weakSl_cons rfl rfl (weakSl_cons rfl rfl (weakSl_cons rfl rfl weakSl_nil)))
        rintro ⟨⟨b, es1, k1⟩, hinv1⟩
        have hb : b ≤ 6 := hinv1.i
        have hes1 : es1 = cur g cl n a b 0 := hinv1.es
        conv => whnf
        refine ⟨fun hlt => ?_, fun hge => ?_⟩ <;> conv => whnf
        · have hlt : (b : Int) - 1 ≤ 4 := hlt
          refine ⟨{ x : MIy // MyInv 11 (cur g cl n a b) x }, fun x => MX g [(1, vi cl), (2, .ref 2 0 0 0), (6, vi ((a : Int) + 1)), (7, vi ((b : Int) - 1)), (8, vi ((x.1.i : Int) - 1))] x.1.es x.1.k, fun x => 11 - x.1.i, ⟨⟨0, es1, k1⟩, ⟨by simp, hes1⟩⟩, ?_, ?_⟩
          · exact weakX rfl rfl fun _ => weakSl_cons rfl rfl (weakSl_cons rfl rfl (weakSl_cons rfl rfl (weakSl_cons rfl rfl (weakSl_cons rfl rfl weakSl_nil))))
          rintro ⟨⟨d, es2, k2⟩, hinv2⟩
          have hd : d ≤ 11 := hinv2.i
          have hes2 : es2 = cur g cl n a b d := hinv2.es
          cases es2 with
          | nil =>
            conv => whnf
            refine ⟨fun hlt => ?_, fun hge => ?_⟩ <;> conv => whnf
            · have hlt : (d : Int) - 1 ≤ 9 := hlt
              have hsame := (fun hgo : goes g (mvReq cl n a b d) = false => (⟨by show d + 1 ≤ 11; omega, by show [] = cur g cl n a b (d + 1); rw [cur_y, ← hes2, mv1, hgo]; simp⟩ : MyInv 11 (cur g cl n a b) ⟨d + 1, [], k2⟩))
              have hrow : ([.int .i64 cl, .int .i64 (IntKind.i64.wrap (intAt g.last (cl - 1) + 1)), .int .i64 ((a : Int) + 1), .int .i64 ((b : Int) - 1), .int .i64 ((d : Int) - 1)] : List D) = encReq (mvReq cl n a b d) := by rw [hw, ← hn]; rfl
              have harg : V.agg [vi cl, vi (IntKind.i64.wrap (intAt g.last (cl - 1) + 1)), vi ((a : Int) + 1), vi ((b : Int) - 1), vi ((d : Int) - 1)] = vReq (mvReq cl n a b d) := by rw [hwn]; rfl
              refine ⟨by rw [wc]; omega, by rw [wc]; simp; omega, ?_⟩
              conv => whnf
              refine ⟨encI (intAt g.last (cl - 1)), by rw [wc]; exact intAt_row (l := g.last) (by omega) (by omega), ?_⟩
              conv => whnf
              refine call_bool' (reqOk_ok (mvReq cl n a b d)) (congrArg (fun z => [z]) harg) (fun hR => ?_) (fun hR => ?_) <;> conv => whnf
              · refine doYes_use hI hD (a := true) (b := true) (c := true) hok hR (congrArg (fun z => [vGame true true true g, z]) harg) fun x1 x2 x3 => ?_
                conv => whnf
                refine ⟨fun hz => ?_, fun hz => ?_⟩ <;> conv => whnf
                · have hgo : goes g (mvReq cl n a b d) = true := by unfold goes; rw [hR]; simpa using hz
                  refine ⟨room (by simp) rfl, room' (by simp), ?_⟩
                  conv => whnf
                  refine ⟨⟨⟨d + 1, [mvReq cl n a b d], false⟩, ⟨by show d + 1 ≤ 11; omega, by show [mvReq cl n a b d] = cur g cl n a b (d + 1); rw [cur_y, ← hes2, mv1, hgo]; rfl⟩⟩, by show 11 - (d + 1) < 11 - d; omega, ?_⟩
                  refine weakYfalse rfl rfl rfl rfl rfl ?_ fun _ => weakSl_cons rfl rfl (weakSl_cons rfl rfl (weakSl_cons rfl rfl (weakSl_cons rfl rfl (weakSl_cons (stepB d (by omega)) rfl weakSl_nil))))
                  exact congrArg (fun z => Obj.arr false 5 z) (show ([[.int .i64 cl, .int .i64 (IntKind.i64.wrap (intAt g.last (cl - 1) + 1)), .int .i64 ((a : Int) + 1), .int .i64 ((b : Int) - 1), .int .i64 ((d : Int) - 1)]] : List (List D)) = [mvReq cl n a b d].map encReq by rw [hrow]; rfl)
                · exact ⟨⟨⟨d + 1, [], k2⟩, hsame (by unfold goes; rw [hR]; simpa using hz)⟩, by show 11 - (d + 1) < 11 - d; omega, weakYnil rfl rfl rfl rfl rfl fun _ => weakSl_cons rfl rfl (weakSl_cons rfl rfl (weakSl_cons rfl rfl (weakSl_cons rfl rfl (weakSl_cons (stepB d (by omega)) rfl weakSl_nil))))⟩
              · exact ⟨⟨⟨d + 1, [], k2⟩, hsame (by unfold goes; rw [hR]; rfl)⟩, by show 11 - (d + 1) < 11 - d; omega, weakYnil rfl rfl rfl rfl rfl fun _ => weakSl_cons rfl rfl (weakSl_cons rfl rfl (weakSl_cons rfl rfl (weakSl_cons rfl rfl (weakSl_cons (stepB d (by omega)) rfl weakSl_nil))))⟩
            · have hge : ¬ (d : Int) - 1 ≤ 9 := hge
              have hd11 : d = 11 := by omega
              exact ⟨⟨⟨b + 1, [], k2⟩, ⟨by show b + 1 ≤ 6; omega, by show [] = cur g cl n a (b + 1) 0; rw [cur_x, ← hd11]; exact hes2⟩⟩, by show 6 - (b + 1) < 6 - b; omega, weakX rfl rfl fun _ => weakSl_cons rfl rfl (weakSl_cons rfl rfl (weakSl_cons rfl rfl (weakSl_cons (stepB b (by omega)) rfl weakSl_nil)))⟩
          | cons q2 qs2 =>
            cases k2 with
            | false =>
              conv => whnf
              have hlq : (q2 :: qs2).length ≤ 500 := by rw [hes2]; exact cur_len (by omega) (by omega) (by omega)
              simp only [List.length_cons] at hlq
              refine ⟨fun hlt => ?_, fun hge => ?_⟩ <;> conv => whnf
              · have hlt : (d : Int) - 1 ≤ 9 := hlt
                have hsame := (fun hgo : goes g (mvReq cl n a b d) = false => (⟨by show d + 1 ≤ 11; omega, by show (q2 :: qs2) = cur g cl n a b (d + 1); rw [cur_y, ← hes2, mv1, hgo]; simp⟩ : MyInv 11 (cur g cl n a b) ⟨d + 1, (q2 :: qs2), false⟩))
                have hrow : ([.int .i64 cl, .int .i64 (IntKind.i64.wrap (intAt g.last (cl - 1) + 1)), .int .i64 ((a : Int) + 1), .int .i64 ((b : Int) - 1), .int .i64 ((d : Int) - 1)] : List D) = encReq (mvReq cl n a b d) := by rw [hw, ← hn]; rfl
                have harg : V.agg [vi cl, vi (IntKind.i64.wrap (intAt g.last (cl - 1) + 1)), vi ((a : Int) + 1), vi ((b : Int) - 1), vi ((d : Int) - 1)] = vReq (mvReq cl n a b d) := by rw [hwn]; rfl
                refine ⟨by rw [wc]; omega, by rw [wc]; simp; omega, ?_⟩
                conv => whnf
                refine ⟨encI (intAt g.last (cl - 1)), by rw [wc]; exact intAt_row (l := g.last) (by omega) (by omega), ?_⟩
                conv => whnf
                refine call_bool' (reqOk_ok (mvReq cl n a b d)) (congrArg (fun z => [z]) harg) (fun hR => ?_) (fun hR => ?_) <;> conv => whnf
                · refine doYes_use hI hD (a := true) (b := true) (c := true) hok hR (congrArg (fun z => [vGame true true true g, z]) harg) fun x1 x2 x3 => ?_
                  conv => whnf
                  refine ⟨fun hz => ?_, fun hz => ?_⟩ <;> conv => whnf
                  · have hgo : goes g (mvReq cl n a b d) = true := by unfold goes; rw [hR]; simpa using hz
                    refine ⟨room (by simp; omega) rfl, room' (by simp; omega), ?_⟩
                    conv => whnf
                    refine ⟨⟨⟨d + 1, (q2 :: (qs2 ++ [mvReq cl n a b d])), true⟩, ⟨by show d + 1 ≤ 11; omega, by show (q2 :: (qs2 ++ [mvReq cl n a b d])) = cur g cl n a b (d + 1); rw [cur_y, ← hes2, mv1, hgo]; rfl⟩⟩, by show 11 - (d + 1) < 11 - d; omega, ?_⟩
                    refine weakYtrue rfl rfl rfl rfl rfl ?_ fun _ => weakSl_cons rfl rfl (weakSl_cons rfl rfl (weakSl_cons rfl rfl (weakSl_cons rfl rfl (weakSl_cons (stepB d (by omega)) rfl weakSl_nil))))
                    exact congrArg (fun z => Obj.arr false 5 z) (show ((q2 :: qs2).map encReq ++ [[.int .i64 cl, .int .i64 (IntKind.i64.wrap (intAt g.last (cl - 1) + 1)), .int .i64 ((a : Int) + 1), .int .i64 ((b : Int) - 1), .int .i64 ((d : Int) - 1)]] : List (List D)) = (q2 :: (qs2 ++ [mvReq cl n a b d])).map encReq by rw [hrow]; simp)
                  · exact ⟨⟨⟨d + 1, (q2 :: qs2), false⟩, hsame (by unfold goes; rw [hR]; simpa using hz)⟩, by show 11 - (d + 1) < 11 - d; omega, weakYfalse rfl rfl rfl rfl rfl rfl fun _ => weakSl_cons rfl rfl (weakSl_cons rfl rfl (weakSl_cons rfl rfl (weakSl_cons rfl rfl (weakSl_cons (stepB d (by omega)) rfl weakSl_nil))))⟩
                · exact ⟨⟨⟨d + 1, (q2 :: qs2), false⟩, hsame (by unfold goes; rw [hR]; rfl)⟩, by show 11 - (d + 1) < 11 - d; omega, weakYfalse rfl rfl rfl rfl rfl rfl fun _ => weakSl_cons rfl rfl (weakSl_cons rfl rfl (weakSl_cons rfl rfl (weakSl_cons rfl rfl (weakSl_cons (stepB d (by omega)) rfl weakSl_nil))))⟩
              · have hge : ¬ (d : Int) - 1 ≤ 9 := hge
                have hd11 : d = 11 := by omega
                exact ⟨⟨⟨b + 1, (q2 :: qs2), false⟩, ⟨by show b + 1 ≤ 6; omega, by show (q2 :: qs2) = cur g cl n a (b + 1) 0; rw [cur_x, ← hd11]; exact hes2⟩⟩, by show 6 - (b + 1) < 6 - b; omega, weakX rfl rfl fun _ => weakSl_cons rfl rfl (weakSl_cons rfl rfl (weakSl_cons rfl rfl (weakSl_cons (stepB b (by omega)) rfl weakSl_nil)))⟩
            | true =>
              conv => whnf
              have hlq : (q2 :: qs2).length ≤ 500 := by rw [hes2]; exact cur_len (by omega) (by omega) (by omega)
              simp only [List.length_cons] at hlq
              refine ⟨fun hlt => ?_, fun hge => ?_⟩ <;> conv => whnf
              · have hlt : (d : Int) - 1 ≤ 9 := hlt
                have hsame := (fun hgo : goes g (mvReq cl n a b d) = false => (⟨by show d + 1 ≤ 11; omega, by show (q2 :: qs2) = cur g cl n a b (d + 1); rw [cur_y, ← hes2, mv1, hgo]; simp⟩ : MyInv 11 (cur g cl n a b) ⟨d + 1, (q2 :: qs2), true⟩))
                have hrow : ([.int .i64 cl, .int .i64 (IntKind.i64.wrap (intAt g.last (cl - 1) + 1)), .int .i64 ((a : Int) + 1), .int .i64 ((b : Int) - 1), .int .i64 ((d : Int) - 1)] : List D) = encReq (mvReq cl n a b d) := by rw [hw, ← hn]; rfl
                have harg : V.agg [vi cl, vi (IntKind.i64.wrap (intAt g.last (cl - 1) + 1)), vi ((a : Int) + 1), vi ((b : Int) - 1), vi ((d : Int) - 1)] = vReq (mvReq cl n a b d) := by rw [hwn]; rfl
                refine ⟨by rw [wc]; omega, by rw [wc]; simp; omega, ?_⟩
                conv => whnf
                refine ⟨encI (intAt g.last (cl - 1)), by rw [wc]; exact intAt_row (l := g.last) (by omega) (by omega), ?_⟩
                conv => whnf
                refine call_bool' (reqOk_ok (mvReq cl n a b d)) (congrArg (fun z => [z]) harg) (fun hR => ?_) (fun hR => ?_) <;> conv => whnf
                · refine doYes_use hI hD (a := true) (b := true) (c := true) hok hR (congrArg (fun z => [vGame true true true g, z]) harg) fun x1 x2 x3 => ?_
                  conv => whnf
                  refine ⟨fun hz => ?_, fun hz => ?_⟩ <;> conv => whnf
                  · have hgo : goes g (mvReq cl n a b d) = true := by unfold goes; rw [hR]; simpa using hz
                    refine ⟨room (by simp; omega) rfl, room' (by simp; omega), ?_⟩
                    conv => whnf
                    refine ⟨⟨⟨d + 1, (q2 :: (qs2 ++ [mvReq cl n a b d])), false⟩, ⟨by show d + 1 ≤ 11; omega, by show (q2 :: (qs2 ++ [mvReq cl n a b d])) = cur g cl n a b (d + 1); rw [cur_y, ← hes2, mv1, hgo]; rfl⟩⟩, by show 11 - (d + 1) < 11 - d; omega, ?_⟩
                    refine weakYfalse rfl rfl rfl rfl rfl ?_ fun _ => weakSl_cons rfl rfl (weakSl_cons rfl rfl (weakSl_cons rfl rfl (weakSl_cons rfl rfl (weakSl_cons (stepB d (by omega)) rfl weakSl_nil))))
                    exact congrArg (fun z => Obj.arr false 5 z) (show ((q2 :: qs2).map encReq ++ [[.int .i64 cl, .int .i64 (IntKind.i64.wrap (intAt g.last (cl - 1) + 1)), .int .i64 ((a : Int) + 1), .int .i64 ((b : Int) - 1), .int .i64 ((d : Int) - 1)]] : List (List D)) = (q2 :: (qs2 ++ [mvReq cl n a b d])).map encReq by rw [hrow]; simp)
                  · exact ⟨⟨⟨d + 1, (q2 :: qs2), true⟩, hsame (by unfold goes; rw [hR]; simpa using hz)⟩, by show 11 - (d + 1) < 11 - d; omega, weakYtrue rfl rfl rfl rfl rfl rfl fun _ => weakSl_cons rfl rfl (weakSl_cons rfl rfl (weakSl_cons rfl rfl (weakSl_cons rfl rfl (weakSl_cons (stepB d (by omega)) rfl weakSl_nil))))⟩
                · exact ⟨⟨⟨d + 1, (q2 :: qs2), true⟩, hsame (by unfold goes; rw [hR]; rfl)⟩, by show 11 - (d + 1) < 11 - d; omega, weakYtrue rfl rfl rfl rfl rfl rfl fun _ => weakSl_cons rfl rfl (weakSl_cons rfl rfl (weakSl_cons rfl rfl (weakSl_cons rfl rfl (weakSl_cons (stepB d (by omega)) rfl weakSl_nil))))⟩
              · have hge : ¬ (d : Int) - 1 ≤ 9 := hge
                have hd11 : d = 11 := by omega
                exact ⟨⟨⟨b + 1, (q2 :: qs2), true⟩, ⟨by show b + 1 ≤ 6; omega, by show (q2 :: qs2) = cur g cl n a (b + 1) 0; rw [cur_x, ← hd11]; exact hes2⟩⟩, by show 6 - (b + 1) < 6 - b; omega, weakX rfl rfl fun _ => weakSl_cons rfl rfl (weakSl_cons rfl rfl (weakSl_cons rfl rfl (weakSl_cons (stepB b (by omega)) rfl weakSl_nil)))⟩
        · have hge : ¬ (b : Int) - 1 ≤ 4 := hge
          have hb6 : b = 6 := by omega
          exact ⟨⟨⟨a + 1, es1, k1⟩, ⟨by show a + 1 ≤ 5; omega, by show es1 = cur g cl n (a + 1) 0 0; rw [cur_o, ← hb6]; exact hes1⟩⟩, by show 5 - (a + 1) < 5 - a; omega, weakX rfl rfl fun _ => weakSl_cons rfl rfl (weakSl_cons rfl rfl (weakSl_cons (stepA a (by omega)) rfl weakSl_nil))⟩
      · have hge : ¬ (a : Int) + 1 ≤ 5 := hge
        have ha5 : a = 5 := by omega
        have hes5 : es0 = mvX g cl := by rw [mvX, if_pos hyes, ← hn, ← ha5]; exact hes0
        cases es0 with
        | nil =>
          conv => whnf
          refine hcall_eq (hin := []) (L := []) (R := .d (.slc true 5 [])) ((hcalls_of (clipR_ok true []) rfl).mono fun r l h => h) trivial rfl ⟨trivial, ?_⟩
          conv => whnf
          exact ⟨ownG2 g, ⟨weakHp_cons rfl rfl (weakHp_cons rfl rfl (weakHp_cons rfl rfl weakHp_nil)), rfl, rfl⟩, rfl, .inl ⟨rfl, rfl, hes5.symm⟩⟩
        | cons q0 qs0 =>
          cases k0 with
          | false =>
            conv => whnf
            refine hcall_eq (hin := [(67, .arr false 5 ((q0 :: qs0).map encReq))]) (clipR_f _) ⟨rfl, rfl, trivial⟩ rfl ⟨⟨trivial, rfl, trivial⟩, ?_⟩
            conv => whnf
            exact ⟨ownG2 g ++ [(100, .arr true 5 ((q0 :: qs0).map encReq))], ⟨weakHp_cons rfl rfl (weakHp_cons rfl rfl (weakHp_cons rfl rfl (weakHp_cons rfl rfl weakHp_nil))), rfl, rfl⟩, rfl, .inr ⟨rfl, by rw [← hes5]⟩⟩
          | true =>
            conv => whnf
            refine hcall_eq (hin := [(1000067, .arr false 5 ((q0 :: qs0).map encReq))]) (clipR_t _) ⟨rfl, rfl, trivial⟩ rfl ⟨⟨trivial, rfl, trivial⟩, ?_⟩
            conv => whnf
            exact ⟨ownG2 g ++ [(100, .arr true 5 ((q0 :: qs0).map encReq))], ⟨weakHp_cons rfl rfl (weakHp_cons rfl rfl (weakHp_cons rfl rfl (weakHp_cons rfl rfl weakHp_nil))), rfl, rfl⟩, rfl, .inr ⟨rfl, by rw [← hes5]⟩⟩
    · exact no rfl rfl rfl (fun h => by have := h.2.1; rw [hin] at this; simp at this)
  · exact no rfl rfl rfl (fun h => by have := h.1; rw [hok] at this; simp at this)
end Go.Proofs.Ytnnmkenloijkcaa
/- The exact law of SeeMoves holds of every game and every number of a client. -/
set_option linter.unusedVariables false
set_option linter.unusedSimpArgs false
set_option maxRecDepth 10000
namespace Go.Proofs.Ytnnmkenloijkcaa
open Go Eng

theorem mvX_len (g : Game) (cl : Int) : (mvX g cl).length ≤ 500 := by
  unfold mvX
  split
  · exact cur_len (by omega) (by omega) (by omega)
  · simp
theorem mvS_use (g : Game) (cl : Int) {ψ : V → Prop} (k : ∀ f, ψ (.d (.slc f 5 ((mvX g cl).map encReq)))) : ∃ φ, ACalls Try.prog G0 21 [vGame true true true g, vi cl] φ ∧ ∀ r, φ r → ψ r := by
  refine ⟨_, seeMvS_ok true true true g cl, fun r h => ?_⟩
  subst h
  unfold seeMvS
  split
  · rename_i h
    have := k (cur g cl (intAt g.last (cl - 1) + 1) 5 0 0).isEmpty
    rw [mvX, if_pos h] at this; exact this
  · rename_i h
    have := k true
    rw [mvX, if_neg h] at this; exact this
theorem mvI_X (hI : InsOk) (hD : DelOk) (g : Game) (cl : Int) : ACalls Try.prog G0 19 [vGame true true true g, vi cl] (· = .d (.slc true 5 ((mvX g cl).map encReq))) := by
  refine (seeMvI_ok hI hD true true true g cl).mono fun r h => ?_
  subst h
  unfold seeMvI mvX
  split <;> rfl
theorem markNil : HCalls Try.prog G0 28 (hpOf []) [.d (.slc true 5 []), vi 1] (fun r l => r = vi 1 ∧ l = []) := by
  refine hspec tabOk Try.func28 (by kernel_rfl) true [] [] rfl ?_
  conv => whnf
  let P : Nat → Prop := fun i => True
  let I : Nat → SL := fun i => ⟨[(0, .d (.slc true 5 [])), (1, vi 1), (5, vi i)], []⟩
  refine loop_up 0 P I trivial ?_ ?_
  · exact ⟨weakSl_cons rfl rfl (weakSl_cons rfl rfl (weakSl_cons rfl rfl weakSl_nil)), weakHp_nil, rfl⟩
  intro i hi _
  conv => whnf
  intro _
  refine ⟨fun hlt => ?_, fun hge => ?_⟩ <;> conv => whnf
  · exact absurd hlt (by simp)
  exact ⟨[], ⟨weakHp_nil, rfl, rfl⟩, rfl, rfl, rfl⟩
theorem pure_use {P : Program} {G : Nat → V} {f : FuncId} {args : List V} {R : V} (h : ACalls P G f args (· = R)) (hp : plains args = true) : HCalls P G f (hpOf []) args (fun r l => r = R ∧ l = []) := hcalls_of h hp

set_option maxHeartbeats 1000000 in
theorem law_exMoves (hI : InsOk) (hD : DelOk) (fa fb fc : Bool) (g : Game) (cl : Int) : ACalls Try.prog G0 6 [vGame fa fb fc g, vi cl] (· = vb true) := by
  refine spec_ln tabOk Try.func6 (by kernel_rfl) [] [24, 19, 27, 28] [24] [] rfl ?_
  conv => whnf
  refine ⟨_, szG_ok fa fb fc g, fun r ⟨k, e, hk⟩ => ?_⟩
  subst e
  conv => whnf
  refine ⟨fun h => ?_, fun h => ?_⟩ <;> conv => whnf
  · rfl
  have hS : Small g := hk h
  refine hcall_eq (hin := []) (pure_use (toGame_pure fa fb fc g hS) rfl) trivial rfl ⟨trivial, ?_⟩
  conv => whnf
  refine mvS_use g cl fun fS => ?_
  conv => whnf
  refine hcall_eq (hin := []) (toGame_own fa fb fc g hS) trivial rfl ⟨⟨rfl, rfl, rfl, trivial⟩, ?_⟩
  conv => whnf
  refine hcall_ex (hin := ownG2 g) (seeMvI_own hI hD g cl) ⟨rfl, rfl, rfl, rfl, rfl, rfl, trivial⟩ rfl ?_
  have hlen := mvX_len g cl
  rintro r l (⟨rfl, rfl, hnil⟩ | ⟨rfl, rfl⟩)
  · refine ⟨⟨trivial, trivial, trivial, trivial⟩, ?_⟩
    have eqr : ∀ f, ACalls Try.prog G0 25 [.d (.slc true 5 []), .d (.slc f 5 ((mvX g cl).map encReq))] (· = vb true) := fun f => by
      have := eqReqS_ok true f (mvX g cl)
      rw [hnil] at this ⊢; exact this
    have held : ACalls Try.prog G0 29 [.d (.slc true 5 []), vi 1] (· = vi 1) := by
      have := heldReqS_ok true 0 1 (by omega) (by omega) (by omega)
      exact this
    conv => whnf
    refine call_eq (eqr fS) ?_
    conv => whnf
    refine drawn_ro (hin := []) (pure_use (toGame_pure fa fb fc g hS) rfl) ⟨trivial, rfl, rfl, rfl, ?_⟩
    conv => whnf
    refine drawn_eq (eqGame_ok true true true true true true g) ?_
    conv => whnf
    refine hcall_ex (hin := ownG2 g) (markGame_ok g hS) ⟨rfl, rfl, rfl, rfl, rfl, rfl, trivial⟩ rfl ?_
    rintro r l ⟨⟨k2, rfl, hk2⟩, E, F, L, rfl⟩
    refine ⟨⟨trivial, trivial, trivial, trivial⟩, ?_⟩
    conv => whnf
    refine ⟨fun h => absurd h (by omega), fun _ => ?_⟩
    conv => whnf
    refine call_eq (eqr fS) ?_
    conv => whnf
    refine hcall_eq (hin := []) markNil trivial rfl ⟨trivial, ?_⟩
    conv => whnf
    refine call_eq held ?_
    conv => whnf
    refine ⟨fun h => absurd h (by omega), fun _ => ?_⟩
    conv => whnf
    refine ⟨fun h => absurd rfl h, fun _ => ?_⟩
    conv => whnf
    refine hcall_eq (hin := []) (pure_use (toGame_pure fa fb fc g hS) rfl) trivial rfl ⟨trivial, ?_⟩
    conv => whnf
    refine hcall_eq (hin := []) (pure_use (mvI_X hI hD g cl) rfl) trivial rfl ⟨trivial, ?_⟩
    conv => whnf
    refine call_eq (eqReqS_ok true fS (mvX g cl)) ?_
    conv => whnf
    refine call_eq held ?_
    conv => whnf
    refine ⟨fun h => absurd h (by omega), fun _ => ?_⟩
    conv => whnf
    refine ⟨fun h => absurd rfl h, fun _ => ?_⟩
    conv => whnf
    rfl
  · refine ⟨⟨trivial, trivial, trivial, rfl, trivial⟩, ?_⟩
    have hml : ((mvX g cl).map encReq).length ≤ 500 := by simpa using hlen
    have held : ACalls Try.prog G0 29 [.d (.slc true 5 (marks mk5 5 1 ((mvX g cl).map encReq).length)), vi 1] (· = vi (1 + 5 * (((mvX g cl).map encReq).length : Int))) := heldReqS_ok true _ 1 (by omega) (by omega) (by omega)
    have hge : ¬ 1 + 5 * (((mvX g cl).map encReq).length : Int) < 0 := by omega
    conv => whnf
    refine call_eq (eqReqS_ok true fS (mvX g cl)) ?_
    conv => whnf
    refine drawn_ro (hin := []) (pure_use (toGame_pure fa fb fc g hS) rfl) ⟨trivial, rfl, rfl, rfl, ?_⟩
    conv => whnf
    refine drawn_eq (eqGame_ok true true true true true true g) ?_
    conv => whnf
    refine hcall_ex (hin := ownG2 g) (markGame_ok g hS) ⟨rfl, rfl, rfl, rfl, rfl, rfl, trivial⟩ rfl ?_
    rintro r l ⟨⟨k2, rfl, hk2⟩, E, F, L, rfl⟩
    refine ⟨⟨trivial, trivial, trivial, trivial⟩, ?_⟩
    conv => whnf
    refine ⟨fun h => absurd h (by omega), fun _ => ?_⟩
    conv => whnf
    refine call_eq (eqReqS_ok true fS (mvX g cl)) ?_
    conv => whnf
    refine hcall_eq (at_id (markReqS_ok 5 rfl true ((mvX g cl).map encReq) 1 (by omega) (by omega) (by omega) (fun i r hi => by simp at hi; obtain ⟨e, _, rfl⟩ := hi; rfl)) (fun _ => rfl) (fun _ => rfl) 100) ⟨rfl, rfl, trivial⟩ rfl ⟨⟨trivial, trivial⟩, ?_⟩
    conv => whnf
    refine call_eq held ?_
    conv => whnf
    refine ⟨fun h => absurd h hge, fun _ => ?_⟩
    conv => whnf
    refine ⟨fun h => absurd rfl h, fun _ => ?_⟩
    conv => whnf
    refine hcall_eq (hin := []) (pure_use (toGame_pure fa fb fc g hS) rfl) trivial rfl ⟨trivial, ?_⟩
    conv => whnf
    refine hcall_eq (hin := []) (pure_use (mvI_X hI hD g cl) rfl) trivial rfl ⟨trivial, ?_⟩
    conv => whnf
    refine call_eq (eqReqS_ok true fS (mvX g cl)) ?_
    conv => whnf
    refine call_eq held ?_
    conv => whnf
    refine ⟨fun h => absurd h hge, fun _ => ?_⟩
    conv => whnf
    refine ⟨fun h => absurd rfl h, fun _ => ?_⟩
    conv => whnf
    rfl
end Go.Proofs.Ytnnmkenloijkcaa
/- What slices.Insert and slices.Delete do to an array of figures. -/
set_option linter.unusedVariables false
set_option linter.unusedSimpArgs false
set_option maxRecDepth 10000
namespace Go.Proofs.Ytnnmkenloijkcaa
open Go Eng

/-- An array that was passed is forgotten. -/
theorem hcalls_forget {P : Program} {G : Nat → V} {f : FuncId} {i : Nat} {hp0 : Nat → Eng.Obj} {args : List V} {x : D} (h : HCalls P G f hp0 args (fun r l => r = .d x ∧ ∃ ob, l = [(i, ob)])) :
    HCalls P G f hp0 args (fun r l => r = .d x ∧ l = [(i, .dead)]) := by
  refine ⟨h.1, fun w g us h1 h2 h3 h4 h5 => (h.2 w g us h1 h2 h3 h4 h5).mono fun e w' ho => ⟨?_⟩⟩
  obtain ⟨u, r, l, g', q1, ⟨q2, ob, q3⟩, q4, q5, q6, q7, q8, q9, q10, q11, q12, q13, q14⟩ := ho.out
  subst q2; subst q3
  have hd : ∀ j, hpOf [(i, Eng.Obj.dead)] j = if j = i then .dead else .none := fun j => by
    unfold hpOf Eng.look
    cases hb : Nat.beq j i with
    | true => rw [if_pos (Nat.eq_of_beq_eq_true hb)]
    | false => rw [if_neg (by rintro rfl; simp at hb)]; rfl
  have ho : ∀ j, hpOf [(i, ob)] j = if j = i then ob else .none := fun j => by
    unfold hpOf Eng.look
    cases hb : Nat.beq j i with
    | true => rw [if_pos (Nat.eq_of_beq_eq_true hb)]
    | false => rw [if_neg (by rintro rfl; simp at hb)]; rfl
  have hl : ∀ j, (hpOf [(i, Eng.Obj.dead)] j).live = false := fun j => by rw [hd]; split <;> rfl
  refine ⟨u, .d x, [(i, .dead)], g', q1, ⟨rfl, rfl⟩, fun p hp => by simp only [List.mem_singleton] at hp; subst hp; rfl, by simp only [RepV] at q5 ⊢; exact q5, fun j => ?_, fun j k b _ hj _ _ => by rw [hl] at hj; simp at hj, q8, q9, q10, ⟨q11.ext, fun j hj => ?_, q11.blk, q11.val, fun j hj hg e n => ?_, fun j e n hj hg => ?_⟩, q12, fun j b hj _ => by rw [hl] at hj; simp at hj, q14⟩
  · rw [hd]; split <;> trivial
  · have := q11.used j hj
    rw [ho] at this
    rw [hd]
    split
    · rfl
    · rename_i hne; rw [if_neg hne] at this; simp [Eng.Obj.used] at this
  · rw [hd]; split <;> simp
  · rw [hd] at hg; split at hg <;> simp at hg

theorem fin5 {want : List (List D)} (s : St) (x : List (List D)) (ob : Eng.Obj) (hx : x = want) (h5 : s.hp 5 = ob) (ho : okO [5] ob = true) (hu : ob.used = true) :
    ∃ m, HRest s [5] m ∧ (V.d (.slc false 5 x) = .d (.slc false 5 want) ∧ ∃ ob, m = [(5, ob)]) := by
  subst hx
  refine ⟨[(5, ob)], ⟨⟨h5, ho, trivial⟩, ?_, rfl⟩, rfl, ob, rfl⟩
  simpa using hu

theorem ins_mid {α : Type} {l : List α} {k : Nat} {z e : α} (hk : k < l.length) {n : Nat} (hn : n = l.length - k + 1) :
    (((l.take k ++ List.replicate n z).take k ++ [e] ++ (l.take k ++ List.replicate n z).drop (k + 1)).take (k + 1) ++ l.drop k ++
      ((l.take k ++ List.replicate n z).take k ++ [e] ++ (l.take k ++ List.replicate n z).drop (k + 1)).drop (k + 1 + (l.drop k).length)) = l.take k ++ [e] ++ l.drop k := by
  subst hn
  have h1 : (l.take k).length = k := by simp; omega
  have h2 : (l.take k ++ List.replicate (l.length - k + 1) z).take k = l.take k := by rw [List.take_append_of_le_length (by omega), List.take_of_length_le (by omega)]
  rw [h2]
  have h3 : (l.take k ++ [e]).length = k + 1 := by simp; omega
  have h4 : (l.take k ++ [e] ++ (l.take k ++ List.replicate (l.length - k + 1) z).drop (k + 1)).drop (k + 1 + (l.drop k).length) = [] := List.drop_eq_nil_of_le (by simp; omega)
  rw [h4, List.take_append_of_le_length (by omega), List.take_of_length_le (by omega), List.append_nil]

theorem insOk : InsOk := by
  intro l k e hk hl
  refine hcalls_forget ?_
  refine hspec tabOk Try.func76 (by kernel_rfl) false [12, 25, 34, 40, 43, 50, 53] [] rfl ?_
  have w1 : IntKind.i64.wrap ((l.length : Int) + 1) = l.length + 1 := wrap_id (by omega) (by omega)
  have w2 : IntKind.i64.wrap ((l.length : Int) + 1 - k) = l.length + 1 - k := wrap_id (by omega) (by omega)
  have w3 : IntKind.i64.wrap ((k : Int) + 1) = k + 1 := wrap_id (by omega) (by omega)
  conv => whnf
  refine ⟨by simp, by simp; omega, by simp, ?_⟩
  conv => whnf
  intro _
  refine ⟨fun h => ?_, fun _ => ?_⟩
  · simp at h
  conv => whnf
  intro _
  refine ⟨fun h => ?_, fun h => ?_⟩ <;> conv => whnf
  · refine ⟨by simp, by simp, by simp; omega, by simp; omega, ?_⟩
    conv => whnf
    have hkl : k = l.length := by simp at h; omega
    refine fin5 _ _ (.arr true 5 (l.map encEnt)) ?_ ?_ ?_ ?_
    · subst hkl
      have e1 : (l.map encEnt).take l.length = l.map encEnt := List.take_of_length_le (by simp)
      simp [e1]
    · rfl
    · rfl
    · rfl
  · have hkl : k < l.length := by simp at h; omega
    refine ⟨by simp, ?_⟩
    conv => whnf
    refine ⟨fun h2 => ?_, fun h2 => ?_⟩
    · conv => whnf
      refine ⟨by simp, by simp, by simp; omega, ?_⟩
      conv => whnf
      refine ⟨?_, by simp, ?_, ?_, ?_⟩
      · simp [w1, w2]; omega
      · simp [w1, w2]; omega
      · simp [w1, w2]; omega
      conv => whnf
      refine ⟨by simp, by simp; omega, by simp [w1, w2], ?_⟩
      conv => whnf
      refine ⟨by simp [w3]; omega, ?_, ?_, ?_⟩
      · simp [w1, w2, w3]; omega
      · simp [w1, w2, w3]
      conv => whnf
      refine ⟨by simp, ?_, ?_, ?_⟩
      · simp; omega
      · simp
      conv => whnf
      refine fin5 _ _ (.arr true 5 (l.map encEnt)) ?_ ?_ ?_ ?_
      · have m1 : min k l.length = k := by omega
        have m2 : ((k : Int) + ((l.length + 1 - k : Nat) : Int)).toNat - k = l.length + 1 - k := by omega
        have m3 : min (l.length + 1 - k) 1 = 1 := by omega
        have m4 : [encEnt e].take (l.length + 1 - k) = [encEnt e] := List.take_of_length_le (by simp; omega)
        have m5 : ∀ x, min k (k + x) = k := fun x => by omega
        have m6 : ((k : Int) + (((k + (l.length + 1 - k) - (k + 1) : Nat) : Int) + 1)).toNat - (k + 1) = l.length - k := by omega
        have m7 : ((l.map encEnt).drop k).take (l.length - k) = (l.map encEnt).drop k := List.take_of_length_le (by simp)
        have m8 := ins_mid (l := l.map encEnt) (k := k) (z := [D.int IntKind.i64 0, D.int IntKind.i64 0, D.int IntKind.i64 0, D.int IntKind.i64 0, D.int IntKind.i64 0]) (e := encEnt e) (by simpa using hkl) (n := l.length + 1 - k) (by simp; omega)
        dsimp only
        have m9 : ∀ R : List (List D), ((l.map encEnt).take k ++ R).take k = (l.map encEnt).take k := fun R => by rw [List.take_append_of_le_length (by simp; omega), List.take_of_length_le (by simp; omega)]
        rw [m9] at m8
        simp at m8
        simp [w1, w2, w3, m1, m2, m3, m4, m5, m6, m7]
        exact m8
      · rfl
      · rfl
      · rfl
    · exfalso
      simp [w1] at h2
      omega
theorem delOk : DelOk := by
  intro l k h0 hk hl
  refine hcalls_forget ?_
  refine hspec tabOk Try.func78 (by kernel_rfl) false [13, 22, 25, 31] [] rfl ?_
  have w1 : (k + 1).toNat = k.toNat + 1 := by omega
  conv => whnf
  intro _
  refine ⟨?_, ?_, ?_, ?_, ?_, ?_⟩
  · simp
  · simp
  · simp; omega
  · simp; omega
  · simp; omega
  conv => whnf
  refine ⟨fun h => ?_, fun h => ?_⟩
  · omega
  conv => whnf
  intro _
  refine ⟨by simp, ?_, ?_, ?_⟩
  · simp; omega
  · simp; omega
  conv => whnf
  refine ⟨?_, ?_, ?_, ?_⟩
  · simp; omega
  · simp; omega
  · simp
  conv => whnf
  refine ⟨?_, ?_⟩
  · simp; omega
  conv => whnf
  intro _
  refine ⟨?_, ?_, ?_, ?_⟩
  · simp
  · simp; omega
  · simp; omega
  conv => whnf
  refine fin5 _ _ _ ?_ rfl ?_ ?_
  · have m1 : min k.toNat l.length = k.toNat := by omega
    have m2 : k.toNat + (l.length - (k.toNat + 1)) = l.length - 1 := by omega
    have m3 : min (l.length - 1) (k.toNat + (l.length - (k.toNat + 1) + (l.length - (l.length - 1)))) = l.length - 1 := by omega
    have m4 : ((l.map encEnt).drop (k.toNat + 1)).take (l.length - (k.toNat + 1)) = (l.map encEnt).drop (k.toNat + 1) := List.take_of_length_le (by simp)
    have m5 : ∀ C : List (List D), ((l.map encEnt).take k.toNat ++ ((l.map encEnt).drop (k.toNat + 1) ++ C)).take (l.length - 1) = (l.map encEnt).take k.toNat ++ (l.map encEnt).drop (k.toNat + 1) := fun C => by
      rw [← List.append_assoc, List.take_append_of_le_length (by simp; omega), List.take_of_length_le (by simp; omega)]
    dsimp only
    simp [w1, m1, m2, m3, m4, m5]
  · rfl
  · rfl
end Go.Proofs.Ytnnmkenloijkcaa
