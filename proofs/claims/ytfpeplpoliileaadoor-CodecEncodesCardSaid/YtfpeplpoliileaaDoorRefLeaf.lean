/- The reference's encode at a text. -/
import Derived.Test.YtfpeplpoliileaaDoorLists
import Derived.BigQuiet
import Derived.Deep.RegionWith
namespace Go.Proofs.YtfpeplpoliileaaDoor
open Go.RowKit Pl

theorem itoa_any (n : Nat) (hn : n ≤ 100000) (w : World) (htab : TabB w.heap.size w) :
    Calls Tryd.prog 38 #[.int .i64 (n : Int)] w fun e w' => e = .returned (.string ⟨(digs n).toArray⟩) ∧ Below w.heap.size w w' := by
  refine (Tryd.strconv_Itoa (n : Int) (by omega) (by omega) w (Lib.TabBelow.here htab)).mono ?_
  rintro e w' ⟨rfl, k, os, rfl⟩
  rw [itoa_size]
  exact ⟨rfl, Lib.below_grow _ _ (Nat.le_refl _) _ _⟩
theorem digs_len (n : Nat) (h : n ≤ 100000) : (digs n).length ≤ 2 * n + 1 := by
  have := enc_length_le (.mk false (List.replicate n 0) [])
  rw [Pl.enc, Pl.size] at this
  simp [sizeL] at this
  omega

set_option maxHeartbeats 1000000 in
theorem refEnc_leaf (sa : ByteArray) (A : Option Addr) (ca lv : Nat) (w : World) (hlv : lv ≤ 12) (htx : sa.size ≤ 100000) (htab : TabB w.heap.size w) :
    Calls Tryd.prog 30 #[.agg #[.bool false, .string sa, .slice A 0 ca], .int .i64 lv] w (GivesSE (digs sa.size ++ 58 :: sa.data.toList) 0 w) := by
  have HTB := Lib.hid htab
  clear htab
  have hdl := digs_len sa.size htx
  have hdz : (⟨(digs sa.size).toArray⟩ : ByteArray).size ≤ 200001 := by rw [Lib.size_eq]; simpa using by omega
  have dd1 : decide ((12 : Int) < (lv : Int)) = false := by simp; omega
  obtain ⟨db, hdb⟩ : ∃ db : ByteArray, db = ⟨(digs sa.size).toArray⟩ := ⟨_, rfl⟩
  have HDB := Lib.hid hdb
  have IT : Hid (∀ w' : World, TabB w'.heap.size w' → Calls Tryd.prog 38 #[.int .i64 (sa.size : Int)] w' fun e w'' => e = .returned (.string db) ∧ Below w'.heap.size w' w'') := by
    intro w' ht; rw [hdb]; exact itoa_any sa.size htx w' ht
  rw [← hdb] at hdz
  have HDZ := Lib.hid hdz
  clear hdb hdl hdz
  have hbox := Lib.hid (Blk.new w 25 #[.bool false, .string sa, .slice A 0 ca])
  have HB1 := Lib.hid ((Below.refl w.heap.size w).alloc (Nat.le_refl _) (.cells #[.bool false, .string sa, .slice A 0 ca] 25))
  obtain ⟨W, hW⟩ : ∃ W : World, W = w.alloc (.cells #[.bool false, .string sa, .slice A 0 ca] 25) := ⟨_, rfl⟩
  rw [← hW] at hbox HB1
  have HS : Hid (∀ w' : World, Below W.heap.size W w' → (Below W.heap.size W w' ∧ w'.cell? ⟨w.heap.size, 1, none⟩ = some (.string sa))) := by
    intro w' hb
    obtain ⟨⟨_, b, _⟩, _⟩ := (hbox.out.below hb hbox.out.lt).three
    exact ⟨hb, b⟩
  have C1 : Hid (∀ w' : World, Below W.heap.size W w' → Calls Tryd.prog 38 #[.int .i64 (sa.size : Int)] w' fun e w'' => e = .returned (.string db) ∧ Below W.heap.size W w'') := by
    intro w' hb
    exact (IT.out w' ((HTB.out.on (HB1.out.trans (hb.mono HB1.out.size))).mono (HB1.out.trans (hb.mono HB1.out.size)).size)).mono fun _ _ ⟨h1, h2⟩ => ⟨h1, hb.trans (h2.mono hb.size)⟩
  go_enter Tryd.func30, Tryd.ntmps30
  go_wp2_with fail
  rw [← hW]
  clear hW hlv dd1
  have hdz := HDZ.out
  have hb0 : Below W.heap.size W W.drew := (Below.refl _ _).drew
  have hc0 := (HS.out _ hb0).2
  have hc1 := (HS.out _ (Below.refl _ _)).2
  go_region_with (go_at_call 38; refine (C1.out _ (by with_reducible assumption)).mono ?_; rintro e wx ⟨rfl, hbx⟩; have hcx := (HS.out _ hbx).2; go_wp2_with fail)
  all_goals
    have hbf : Below W.heap.size W wx := by with_reducible assumption
    have HF := Lib.hid (HB1.out.trans (hbf.mono HB1.out.size))
    go_wp2_with fail
    go_returns
    exact ⟨db ++ ⟨#[58]⟩ ++ sa, rfl, by rw [HDB.out]; simp, HF.out⟩
end Go.Proofs.YtfpeplpoliileaaDoor
