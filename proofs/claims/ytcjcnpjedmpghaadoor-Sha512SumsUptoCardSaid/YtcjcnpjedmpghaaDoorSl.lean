/- The law's helpers: hash, alive. -/
import Derived.Test.YtcjcnpjedmpghaaDoorSk
import Derived.Test.YtcjcnpjedmpghaaDoorRow
namespace Go.Proofs.YtcjcnpjedmpghaaDoor
open Go.RowKit Go.Shelf

set_option maxRecDepth 100000 in
set_option maxHeartbeats 1000000 in
theorem hash_any (bits : Int) (sz : Nat) (h0 : H8) (s want : ByteArray) (W : World) (hnew : ∀ W, Hid (Squares W) → Calls Tryd.prog 10 #[.int .i64 bits] W (NewPost W sz h0))
    (hs0 : 0 < sz) (hs : sz ≤ 64) (hq : Hid (Squares W)) (hcu : Hid (Cubes W)) (hsz : s.size ≤ 1000) (hw : Hid (⟨(hexOf (hash5 sz h0 (bytesOf s))).toArray⟩ = want)) :
    Calls Tryd.prog 14 #[.int .i64 bits, .string s, .string want] W (TrueOf W) := by
  have hconv : ∀ w, (convert 9 23 (.string s)).run Tryd.prog w = .ok (.slice (some ⟨w.heap.size, 0, none⟩) s.size (grownCap w s.size 0 5)) (Lib.bytesWorld w 5 s) :=
    fun w => Lib.run_convert_string_bytes w _ _ _ s Tryd.underlying9 Tryd.uB Tryd.underlying5
  have hE1 : Hid (Ext Nope W (Lib.bytesWorld W 5 s)) := bytesWorld_ext W s
  have hH1 := Lib.hid (bytesWorld_holds W s (by omega))
  have hQ1 : Hid (Squares (Lib.bytesWorld W 5 s)) := hq.out.ext hE1.out (fun h => h)
  have hC1 : Hid (Cubes (Lib.bytesWorld W 5 s)) := hcu.out.ext hE1.out (fun h => h)
  have hN1 := Lib.hid (hnew _ hQ1)
  clear hnew
  go_enter Tryd.func14, Tryd.ntmps14
  go_wp2_with fail
  refine (of_new bits sz h0 _ _ _ (bytesOf s) _ hN1 hs0 hs hH1 (bytesOf_length s) (by omega) hC1).mono ?_
  rintro e w1 ⟨v, rfl, a1, rfl, hh1, hl1, hx1⟩
  have HH1 := Lib.hid hh1
  have HX1 : Hid (Ext Nope W w1) := hE1.out.trans hx1 (fun _ _ h => h) (fun _ _ h => h)
  have HL1 := Lib.hid hl1
  clear hh1 hl1 hx1 hconv
  go_wp2_with fail
  refine (hex_any a1 sz sz _ _ HH1 HL1 (by omega)).mono ?_
  rintro e w2 ⟨rfl, hx2⟩
  have HX2 : Hid (Ext Nope W w2) := HX1.out.trans hx2 (fun _ _ h => h) (fun _ _ h => h)
  rw [hw.out]
  clear hx2
  go_wp2_with fail
  go_ret
  exact ⟨by simp, HX2.out⟩

theorem hexeq {sz : Nat} {h0 : H8} {s want : ByteArray} {l : List (BitVec 8)} {r : List UInt8} (hb : bytesOf s = l) (hr : hexOf (hash5 sz h0 l) = r) (hw : want.data.toList = r) :
    Hid (⟨(hexOf (hash5 sz h0 (bytesOf s))).toArray⟩ = want) := by
  unfold Hid; rw [hb, hr, ← hw]

theorem alive_any (W : World) (hq : Hid (Squares W)) (hcu : Hid (Cubes W)) : Calls Tryd.prog 15 #[] W (TrueOf W) := by
  go_enter Tryd.func15, Tryd.ntmps15
  go_wp2_with fail
  refine (hash_any 512 64 init512 _ _ _ new_512 (by omega) (by omega) hq hcu (by decide) ?_).mono ?_
  · exact hexeq rfl hash_abc_512 rfl
  rintro e w1 ⟨rfl, hx1⟩
  have HX1 := Lib.hid hx1
  have HQ1 : Hid (Squares w1) := hq.out.ext hx1 (fun h => h)
  have HC1 : Hid (Cubes w1) := hcu.out.ext hx1 (fun h => h)
  clear hx1
  go_wp2_with fail
  refine (hash_any 384 48 init384 _ _ _ new_384 (by omega) (by omega) HQ1 HC1 (by decide) ?_).mono ?_
  · exact hexeq rfl hash_abc_384 rfl
  rintro e w2 ⟨rfl, hx2⟩
  have HX2 : Hid (Ext Nope W w2) := HX1.out.trans hx2 (fun _ _ h => h) (fun _ _ h => h)
  clear hx2
  go_wp2_with fail
  go_ret
  exact ⟨rfl, HX2.out⟩
end Go.Proofs.YtcjcnpjedmpghaaDoor
