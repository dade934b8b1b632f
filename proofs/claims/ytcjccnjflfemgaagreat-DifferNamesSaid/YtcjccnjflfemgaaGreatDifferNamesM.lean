/- Some calls that the run of the law DifferNames makes again and again, each reckoned once: closed facts that the kernel reckons. -/
import Derived.Test.YtcjccnjflfemgaaGreatDifferNamesT
import Derived.KernelRfl
namespace Go.Proofs.YtcjccnjflfemgaaGreat.differNames
open Go Go.VE
set_option maxRecDepth 100000
def c0 : V := (.isl [(.int .i64 0), (.int .i64 0), (.int .i64 0), (.int .i64 0), (.int .i64 0), (.int .u64 0), (.int .i64 0), (.int .i64 0), (.int .i64 0), (.int .i64 0), (.int .i64 0), (.int .u64 0)] 2 (some 2))
def c1 : V := (.isl [(.int .u32 0), (.int .i64 0), (.bool false), (.int .u32 0), (.int .i64 0), (.bool false), (.int .u32 0), (.int .i64 0), (.bool false), (.int .u32 0), (.int .i64 0), (.bool false), (.int .u32 0), (.int .i64 0), (.bool false), (.int .u32 0), (.int .i64 0), (.bool false), (.int .u32 0), (.int .i64 0), (.bool false), (.int .u32 0), (.int .i64 0), (.bool false), (.int .u32 0), (.int .i64 0), (.bool false), (.int .u32 0), (.int .i64 0), (.bool false), (.int .u32 0), (.int .i64 0), (.bool false), (.int .u32 0), (.int .i64 0), (.bool false), (.int .u32 0), (.int .i64 0), (.bool false), (.int .u32 0), (.int .i64 0), (.bool false), (.int .u32 0), (.int .i64 0), (.bool false), (.int .u32 0), (.int .i64 0), (.bool false)] 16 (some 16))
def c2 : V := (.agg [(.int .i64 2), (.isl [(.int .u32 0), (.int .u32 0)] 2 (some 2)), c0, (.isl [(.int .i64 1), (.int .i64 (-1))] 2 none), (.isl [(.bool false), (.bool false)] 2 none), (.int .i64 0), c1, (.isl [(.int .i64 (-1)), (.int .i64 (-1))] 2 none), (.isl [(.int .i64 (-1)), (.int .i64 (-1))] 2 none), (.int .i64 (-1)), (.int .i64 (-1))])
def c3 : V := (.tup [c2, (.int .i64 0)])
def c4 : V := (.isl [(.int .u32 3), (.int .i64 4), (.int .i64 1), (.int .i64 2), (.int .i64 4), (.int .i64 1), (.int .i64 2), (.int .i64 4), (.int .i64 1), (.int .i64 2), (.int .i64 4), (.int .i64 1), (.int .i64 2), (.int .i64 4), (.int .i64 0), (.int .u64 5), (.int .i64 2), (.isl [(.int .u32 0), (.int .u32 0)] 2 (some 2)), c0, (.isl [(.int .i64 1), (.int .i64 (-1))] 2 none), (.isl [(.bool false), (.bool false)] 2 none), (.int .i64 0), c1, (.isl [(.int .i64 (-1)), (.int .i64 (-1))] 2 none), (.isl [(.int .i64 (-1)), (.int .i64 (-1))] 2 none), (.int .i64 (-1)), (.int .i64 (-1)), (.int .i64 2), (.isl [(.int .u32 0), (.int .u32 0)] 2 (some 2)), c0, (.isl [(.int .i64 1), (.int .i64 (-1))] 2 none), (.isl [(.bool false), (.bool false)] 2 none), (.int .i64 0), c1, (.isl [(.int .i64 (-1)), (.int .i64 (-1))] 2 none), (.isl [(.int .i64 (-1)), (.int .i64 (-1))] 2 none), (.int .i64 (-1)), (.int .i64 (-1)), .nils, (.int .u64 0), (.int .u64 0), (.int .u64 0)] 1 (some 1))
def c5 : V := (.agg [(.int .u64 5), (.int .u8 0), (.int .u8 0), (.int .u8 0), (.int .u8 0), (.int .u8 0), (.int .u8 0), (.int .u8 0), (.int .u8 0), (.int .u8 0), (.int .u8 0), (.int .u8 0), (.int .u8 0), (.int .u8 0), (.int .u8 0), (.int .u8 0), (.int .u8 0), (.int .u8 0), (.int .u8 0), (.int .u8 0), (.int .u8 0), (.int .u8 0), (.int .u8 0), (.int .u8 0), (.int .u8 0), (.int .u8 0), (.int .u8 0), (.int .u8 0), (.int .u8 0), (.int .u8 0), (.int .u8 0), (.int .u8 0), (.int .u8 0), (.int .u32 0), (.int .u32 0), (.int .u32 0), (.int .u32 0), (.int .u32 0), (.int .u32 0), (.int .u32 0), (.int .u32 0), (.int .u32 0), (.int .u32 0), (.int .u32 0), (.int .u32 0), (.int .u32 0), (.int .u32 0), (.int .u32 0), (.int .u32 0), c4])
def c6 : V := (.isl [(.int .u32 3), (.int .i64 4), (.int .i64 1), (.int .i64 2), (.int .i64 4), (.int .i64 1), (.int .i64 2), (.int .i64 4), (.int .i64 1), (.int .i64 2), (.int .i64 2), (.int .i64 2), (.int .i64 4), (.int .i64 1), (.int .i64 2), (.int .i64 4), (.int .i64 0), (.int .u64 5), .nils, .nils, (.isl [] 0 (some 0)), (.int .u64 0), (.int .u64 0), (.int .u64 0)] 1 none)
def c7 : V := (.agg [(.int .u64 5), (.int .u8 0), (.int .u8 0), (.int .u8 0), (.int .u8 0), (.int .u8 0), (.int .u8 0), (.int .u8 0), (.int .u8 0), (.int .u8 0), (.int .u8 0), (.int .u8 0), (.int .u8 0), (.int .u8 0), (.int .u8 0), (.int .u8 0), (.int .u8 0), (.int .u8 0), (.int .u8 0), (.int .u8 0), (.int .u8 0), (.int .u8 0), (.int .u8 0), (.int .u8 0), (.int .u8 0), (.int .u8 0), (.int .u8 0), (.int .u8 0), (.int .u8 0), (.int .u8 0), (.int .u8 0), (.int .u8 0), (.int .u8 0), (.int .u32 0), (.int .u32 0), (.int .u32 0), (.int .u32 0), (.int .u32 0), (.int .u32 0), (.int .u32 0), (.int .u32 0), (.int .u32 0), (.int .u32 0), (.int .u32 0), (.int .u32 0), (.int .u32 0), (.int .u32 0), (.int .u32 0), (.int .u32 0), c6])
def c8 : V := (.agg [(.int .i64 4), (.int .i64 1), (.int .i64 2), (.int .i64 4), (.int .i64 0), (.int .u64 5)])
def c9 : V := (.agg [(.isl [(.int .i64 (-1)), (.int .i64 (-1))] 2 none), (.isl [(.int .i64 (-1)), (.int .i64 (-1))] 2 none), (.int .i64 (-1)), (.int .i64 (-1))])
def c10 : V := (.agg [(.int .u32 3), (.int .i64 4), (.int .i64 1), (.int .i64 2), (.int .i64 4), (.int .i64 1), (.int .i64 2), (.int .i64 4), (.int .i64 1), (.int .i64 2), (.int .i64 4), (.int .i64 1), (.int .i64 2), (.int .i64 4), (.int .i64 0), (.int .u64 5), (.int .i64 2), (.isl [(.int .u32 0), (.int .u32 0)] 2 (some 2)), c0, (.isl [(.int .i64 1), (.int .i64 (-1))] 2 none), (.isl [(.bool false), (.bool false)] 2 none), (.int .i64 0), c1, (.isl [(.int .i64 (-1)), (.int .i64 (-1))] 2 none), (.isl [(.int .i64 (-1)), (.int .i64 (-1))] 2 none), (.int .i64 (-1)), (.int .i64 (-1)), (.int .i64 2), (.isl [(.int .u32 0), (.int .u32 0)] 2 (some 2)), c0, (.isl [(.int .i64 1), (.int .i64 (-1))] 2 none), (.isl [(.bool false), (.bool false)] 2 none), (.int .i64 0), c1, (.isl [(.int .i64 (-1)), (.int .i64 (-1))] 2 none), (.isl [(.int .i64 (-1)), (.int .i64 (-1))] 2 none), (.int .i64 (-1)), (.int .i64 (-1)), .nils, (.int .u64 0), (.int .u64 0), (.int .u64 0)])
def c11 : V := (.isl [(.int .u32 3), (.int .i64 4), (.int .i64 1), (.int .i64 2), (.int .i64 4), (.int .i64 1), (.int .i64 2), (.int .i64 4), (.int .i64 1), (.int .i64 2), (.int .i64 2), (.int .i64 2), (.int .i64 4), (.int .i64 1), (.int .i64 2), (.int .i64 4), (.int .i64 0), (.int .u64 5), .nils, .nils, .nils, (.int .u64 0), (.int .u64 0), (.int .u64 0)] 1 none)
def c12 : V := (.agg [(.int .u64 5), (.int .u8 0), (.int .u8 0), (.int .u8 0), (.int .u8 0), (.int .u8 0), (.int .u8 0), (.int .u8 0), (.int .u8 0), (.int .u8 0), (.int .u8 0), (.int .u8 0), (.int .u8 0), (.int .u8 0), (.int .u8 0), (.int .u8 0), (.int .u8 0), (.int .u8 0), (.int .u8 0), (.int .u8 0), (.int .u8 0), (.int .u8 0), (.int .u8 0), (.int .u8 0), (.int .u8 0), (.int .u8 0), (.int .u8 0), (.int .u8 0), (.int .u8 0), (.int .u8 0), (.int .u8 0), (.int .u8 0), (.int .u8 0), (.int .u32 0), (.int .u32 0), (.int .u32 0), (.int .u32 0), (.int .u32 0), (.int .u32 0), (.int .u32 0), (.int .u32 0), (.int .u32 0), (.int .u32 0), (.int .u32 0), (.int .u32 0), (.int .u32 0), (.int .u32 0), (.int .u32 0), (.int .u32 0), c11])
def c13 : V := (.tup [c12, (.int .i64 0)])
def c14 : V := (.agg [(.int .u32 0), (.int .i64 0), (.int .i64 0), (.int .i64 0), (.int .i64 0), (.int .i64 0), (.int .i64 0), (.int .i64 0), (.int .i64 0), (.int .i64 0), (.int .i64 0), (.int .i64 0), (.int .i64 0), (.int .i64 0), (.int .i64 0), (.int .i64 0), (.int .i64 0), (.int .u64 0), .nils, .nils, .nils, (.int .u64 0), (.int .u64 0), (.int .u64 0)])
def c15 : V := (.agg [(.int .u32 3), (.int .i64 4), (.int .i64 1), (.int .i64 2), (.int .i64 4), (.int .i64 1), (.int .i64 2), (.int .i64 4), (.int .i64 1), (.int .i64 2), (.int .i64 2), (.int .i64 2), (.int .i64 4), (.int .i64 1), (.int .i64 2), (.int .i64 4), (.int .i64 0), (.int .u64 5), .nils, .nils, (.isl [] 0 (some 0)), (.int .u64 0), (.int .u64 0), (.int .u64 0)])
def c16 : V := (.agg [(.int .u64 0), (.int .u8 0), (.int .u8 0), (.int .u8 0), (.int .u8 0), (.int .u8 0), (.int .u8 0), (.int .u8 0), (.int .u8 0), (.int .u8 0), (.int .u8 0), (.int .u8 0), (.int .u8 0), (.int .u8 0), (.int .u8 0), (.int .u8 0), (.int .u8 0), (.int .u8 0), (.int .u8 0), (.int .u8 0), (.int .u8 0), (.int .u8 0), (.int .u8 0), (.int .u8 0), (.int .u8 0), (.int .u8 0), (.int .u8 0), (.int .u8 0), (.int .u8 0), (.int .u8 0), (.int .u8 0), (.int .u8 0), (.int .u8 0), (.int .u32 1000001), (.int .u32 0), (.int .u32 0), (.int .u32 0), (.int .u32 0), (.int .u32 0), (.int .u32 0), (.int .u32 0), (.int .u32 0), (.int .u32 0), (.int .u32 0), (.int .u32 0), (.int .u32 0), (.int .u32 0), (.int .u32 0), (.int .u32 0), .nils])
def c17 : V := (.agg [(.int .u32 3), (.int .i64 4), (.int .i64 1), (.int .i64 2), (.int .i64 4), (.int .i64 1), (.int .i64 2), (.int .i64 4), (.int .i64 1), (.int .i64 2), (.int .i64 2), (.int .i64 2), (.int .i64 4), (.int .i64 1), (.int .i64 2), (.int .i64 4), (.int .i64 0), (.int .u64 5), .nils, .nils, .nils, (.int .u64 0), (.int .u64 0), (.int .u64 0)])
def c18 : V := (.agg [(.int .i64 2), (.isl [(.int .u32 0), (.int .u32 0)] 2 (some 2)), c0, (.isl [(.int .i64 1), (.int .i64 (-1))] 2 none), (.isl [(.bool false), (.bool false)] 2 (some 2)), (.int .i64 0), c1, (.isl [(.int .i64 (-1)), (.int .i64 (-1))] 2 (some 2)), (.isl [(.int .i64 (-1)), (.int .i64 (-1))] 2 none), (.int .i64 (-1)), (.int .i64 (-1))])
def c19 : V := (.agg [(.int .u64 18446744073709551615), (.int .u8 0), (.int .u8 0), (.int .u8 0), (.int .u8 0), (.int .u8 0), (.int .u8 0), (.int .u8 0), (.int .u8 0), (.int .u8 0), (.int .u8 0), (.int .u8 0), (.int .u8 0), (.int .u8 0), (.int .u8 0), (.int .u8 0), (.int .u8 0), (.int .u8 0), (.int .u8 0), (.int .u8 0), (.int .u8 0), (.int .u8 0), (.int .u8 0), (.int .u8 0), (.int .u8 0), (.int .u8 0), (.int .u8 0), (.int .u8 0), (.int .u8 0), (.int .u8 0), (.int .u8 0), (.int .u8 0), (.int .u8 0), (.int .u32 0), (.int .u32 0), (.int .u32 0), (.int .u32 0), (.int .u32 0), (.int .u32 0), (.int .u32 0), (.int .u32 0), (.int .u32 0), (.int .u32 0), (.int .u32 0), (.int .u32 0), (.int .u32 0), (.int .u32 0), (.int .u32 0), (.int .u32 0), .nils])
def c20 : V := (.agg [(.int .u64 18446744073709551615), (.int .u8 0), (.int .u8 0), (.int .u8 0), (.int .u8 0), (.int .u8 0), (.int .u8 0), (.int .u8 0), (.int .u8 0), (.int .u8 0), (.int .u8 0), (.int .u8 0), (.int .u8 0), (.int .u8 0), (.int .u8 0), (.int .u8 0), (.int .u8 0), (.int .u8 0), (.int .u8 0), (.int .u8 0), (.int .u8 0), (.int .u8 0), (.int .u8 0), (.int .u8 0), (.int .u8 0), (.int .u8 0), (.int .u8 0), (.int .u8 0), (.int .u8 0), (.int .u8 0), (.int .u8 0), (.int .u8 0), (.int .u8 0), (.int .u32 0), (.int .u32 0), (.int .u32 0), (.int .u32 0), (.int .u32 0), (.int .u32 0), (.int .u32 0), (.int .u32 0), (.int .u32 0), (.int .u32 0), (.int .u32 0), (.int .u32 0), (.int .u32 0), (.int .u32 0), (.int .u32 0), (.int .u32 0), c4])
def c21 : V := (.agg [(.int .u64 0), (.int .u8 0), (.int .u8 0), (.int .u8 0), (.int .u8 0), (.int .u8 0), (.int .u8 0), (.int .u8 0), (.int .u8 0), (.int .u8 0), (.int .u8 0), (.int .u8 0), (.int .u8 0), (.int .u8 0), (.int .u8 0), (.int .u8 0), (.int .u8 0), (.int .u8 0), (.int .u8 0), (.int .u8 0), (.int .u8 0), (.int .u8 0), (.int .u8 0), (.int .u8 0), (.int .u8 0), (.int .u8 0), (.int .u8 0), (.int .u8 0), (.int .u8 0), (.int .u8 0), (.int .u8 0), (.int .u8 0), (.int .u8 0), (.int .u32 0), (.int .u32 0), (.int .u32 0), (.int .u32 0), (.int .u32 0), (.int .u32 0), (.int .u32 0), (.int .u32 0), (.int .u32 0), (.int .u32 0), (.int .u32 0), (.int .u32 0), (.int .u32 0), (.int .u32 0), (.int .u32 0), (.int .u32 0), .nils])
def ma0 : List V := [(.int .i64 2)]
def mr0 : V := c3
theorem mrun0 : isRes ((CFn W noMemo 2000).f 27 ma0 h0) mr0 = true := by kernel_rfl
def mt0 : MT := withMemo 27 ma0 mr0 (noMemo)
theorem mok0 : MemoOK vp mt0 := memo_run (fn := v27) hW noMemo_ok rfl rfl (by kernel_rfl) mrun0
def ma1 : List V := []
def mr1 : V := c5
theorem mrun1 : isRes ((CFn W mt0 2000).f 5 ma1 h0) mr1 = true := by kernel_rfl
def mt1 : MT := withMemo 5 ma1 mr1 (mt0)
theorem mok1 : MemoOK vp mt1 := memo_run (fn := v5) hW mok0 rfl rfl (by kernel_rfl) mrun1
def ma2 : List V := [c2]
def mr2 : V := .nils
theorem mrun2 : isRes ((CFn W mt1 2000).f 26 ma2 h0) mr2 = true := by kernel_rfl
def mt2 : MT := withMemo 26 ma2 mr2 (mt1)
theorem mok2 : MemoOK vp mt2 := memo_run (fn := v26) hW mok1 rfl rfl (by kernel_rfl) mrun2
def ma3 : List V := [c5]
def mr3 : V := c7
theorem mrun3 : isRes ((CFn W mt2 2000).f 4 ma3 h0) mr3 = true := by kernel_rfl
def mt3 : MT := withMemo 4 ma3 mr3 (mt2)
theorem mok3 : MemoOK vp mt3 := memo_run (fn := v4) hW mok2 rfl rfl (by kernel_rfl) mrun3
def ma4 : List V := [c8]
def mr4 : V := (.int .i64 0)
theorem mrun4 : isRes ((CFn W mt3 2000).f 56 ma4 h0) mr4 = true := by kernel_rfl
def mt4 : MT := withMemo 56 ma4 mr4 (mt3)
theorem mok4 : MemoOK vp mt4 := memo_run (fn := v56) hW mok3 rfl rfl (by kernel_rfl) mrun4
def ma5 : List V := [c9]
def mr5 : V := (.tup [.nils, (.int .i64 0)])
theorem mrun5 : isRes ((CFn W mt4 2000).f 92 ma5 h0) mr5 = true := by kernel_rfl
def mt5 : MT := withMemo 92 ma5 mr5 (mt4)
theorem mok5 : MemoOK vp mt5 := memo_run (fn := v92) hW mok4 rfl rfl (by kernel_rfl) mrun5
def ma6 : List V := [c2]
def mr6 : V := (.int .i64 0)
theorem mrun6 : isRes ((CFn W mt5 2000).f 76 ma6 h0) mr6 = true := by kernel_rfl
def mt6 : MT := withMemo 76 ma6 mr6 (mt5)
theorem mok6 : MemoOK vp mt6 := memo_run (fn := v76) hW mok5 rfl rfl (by kernel_rfl) mrun6
def ma7 : List V := [c4]
def mr7 : V := (.int .i64 0)
theorem mrun7 : isRes ((CFn W mt6 2000).f 59 ma7 h0) mr7 = true := by kernel_rfl
def mt7 : MT := withMemo 59 ma7 mr7 (mt6)
theorem mok7 : MemoOK vp mt7 := memo_run (fn := v59) hW mok6 rfl rfl (by kernel_rfl) mrun7
def ma8 : List V := [c10, (.int .u64 5)]
def mr8 : V := (.bool false)
theorem mrun8 : isRes ((CFn W mt7 2000).f 63 ma8 h0) mr8 = true := by kernel_rfl
def mt8 : MT := withMemo 63 ma8 mr8 (mt7)
theorem mok8 : MemoOK vp mt8 := memo_run (fn := v63) hW mok7 rfl rfl (by kernel_rfl) mrun8
def ma9 : List V := [c5]
def mr9 : V := (.int .i64 0)
theorem mrun9 : isRes ((CFn W mt8 2000).f 23 ma9 h0) mr9 = true := by kernel_rfl
def mt9 : MT := withMemo 23 ma9 mr9 (mt8)
theorem mok9 : MemoOK vp mt9 := memo_run (fn := v23) hW mok8 rfl rfl (by kernel_rfl) mrun9
def ma10 : List V := [c2]
def mr10 : V := .nils
theorem mrun10 : isRes ((CFn W mt9 2000).f 49 ma10 h0) mr10 = true := by kernel_rfl
def mt10 : MT := withMemo 49 ma10 mr10 (mt9)
theorem mok10 : MemoOK vp mt10 := memo_run (fn := v49) hW mok9 rfl rfl (by kernel_rfl) mrun10
def ma11 : List V := [c5]
def mr11 : V := c13
theorem mrun11 : isRes ((CFn W mt10 2000).f 16 ma11 h0) mr11 = true := by kernel_rfl
def mt11 : MT := withMemo 16 ma11 mr11 (mt10)
theorem mok11 : MemoOK vp mt11 := memo_run (fn := v16) hW mok10 rfl rfl (by kernel_rfl) mrun11
def ma12 : List V := [c14]
def mr12 : V := (.bool true)
theorem mrun12 : isRes ((CFn W mt11 2000).f 21 ma12 h0) mr12 = true := by kernel_rfl
def mt12 : MT := withMemo 21 ma12 mr12 (mt11)
theorem mok12 : MemoOK vp mt12 := memo_run (fn := v21) hW mok11 rfl rfl (by kernel_rfl) mrun12
def ma13 : List V := [c15]
def mr13 : V := (.bool true)
theorem mrun13 : isRes ((CFn W mt12 2000).f 37 ma13 h0) mr13 = true := by kernel_rfl
def mt13 : MT := withMemo 37 ma13 mr13 (mt12)
theorem mok13 : MemoOK vp mt13 := memo_run (fn := v37) hW mok12 rfl rfl (by kernel_rfl) mrun13
def ma14 : List V := [c16]
def mr14 : V := (.int .i64 8)
theorem mrun14 : isRes ((CFn W mt13 2000).f 23 ma14 h0) mr14 = true := by kernel_rfl
def mt14 : MT := withMemo 23 ma14 mr14 (mt13)
theorem mok14 : MemoOK vp mt14 := memo_run (fn := v23) hW mok13 rfl rfl (by kernel_rfl) mrun14
def ma15 : List V := [c17]
def mr15 : V := (.bool true)
theorem mrun15 : isRes ((CFn W mt14 2000).f 37 ma15 h0) mr15 = true := by kernel_rfl
def mt15 : MT := withMemo 37 ma15 mr15 (mt14)
theorem mok15 : MemoOK vp mt15 := memo_run (fn := v37) hW mok14 rfl rfl (by kernel_rfl) mrun15
def ma16 : List V := [.nils, (.int .i64 2), (.agg [(.int .i64 4), (.int .i64 1), (.int .i64 2)])]
def mr16 : V := c18
theorem mrun16 : isRes ((CFn W mt15 2000).f 31 ma16 h0) mr16 = true := by kernel_rfl
def mt16 : MT := withMemo 31 ma16 mr16 (mt15)
theorem mok16 : MemoOK vp mt16 := memo_run (fn := v31) hW mok15 rfl rfl (by kernel_rfl) mrun16
def ma17 : List V := [c19]
def mr17 : V := (.int .i64 0)
theorem mrun17 : isRes ((CFn W mt16 2000).f 23 ma17 h0) mr17 = true := by kernel_rfl
def mt17 : MT := withMemo 23 ma17 mr17 (mt16)
theorem mok17 : MemoOK vp mt17 := memo_run (fn := v23) hW mok16 rfl rfl (by kernel_rfl) mrun17
def ma18 : List V := [c19, c19]
def mr18 : V := (.tup [(.bool true), (.int .i64 0)])
theorem mrun18 : isRes ((CFn W mt17 2000).f 41 ma18 h0) mr18 = true := by kernel_rfl
def mt18 : MT := withMemo 41 ma18 mr18 (mt17)
theorem mok18 : MemoOK vp mt18 := memo_run (fn := v41) hW mok17 rfl rfl (by kernel_rfl) mrun18
def ma19 : List V := [c20]
def mr19 : V := (.int .i64 0)
theorem mrun19 : isRes ((CFn W mt18 2000).f 23 ma19 h0) mr19 = true := by kernel_rfl
def mt19 : MT := withMemo 23 ma19 mr19 (mt18)
theorem mok19 : MemoOK vp mt19 := memo_run (fn := v23) hW mok18 rfl rfl (by kernel_rfl) mrun19
def ma20 : List V := [c21]
def mr20 : V := (.int .i64 0)
theorem mrun20 : isRes ((CFn W mt19 2000).f 23 ma20 h0) mr20 = true := by kernel_rfl
def mt20 : MT := withMemo 23 ma20 mr20 (mt19)
theorem mok20 : MemoOK vp mt20 := memo_run (fn := v23) hW mok19 rfl rfl (by kernel_rfl) mrun20
end Go.Proofs.YtcjccnjflfemgaaGreat.differNames
