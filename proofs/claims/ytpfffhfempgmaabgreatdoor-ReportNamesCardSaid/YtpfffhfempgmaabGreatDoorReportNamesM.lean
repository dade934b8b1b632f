/- Some calls that the run of the law ReportNames makes again and again, each reckoned once: closed facts that the kernel reckons. -/
import Derived.Test.YtpfffhfempgmaabGreatDoorReportNamesT
import Derived.KernelRfl
namespace Go.Proofs.YtpfffhfempgmaabGreatDoor.reportNames
open Go Go.VE
set_option maxRecDepth 100000
def c0 : V := (.str [105, 110, 118, 97, 108, 105, 100, 32, 115, 121, 110, 116, 97, 120])
def c1 : V := (.iptr [c0])
def c2 : V := (.ifc 262 c1)
def c3 : V := (.iptr [(.str [80, 97, 114, 115, 101, 85, 105, 110, 116]), (.str [110, 111, 119]), c2])
def c4 : V := (.ifc 222 c3)
def c5 : V := (.tup [(.int .u64 0), c4])
def c6 : V := (.iptr [(.str [80, 97, 114, 115, 101, 85, 105, 110, 116]), (.str [101, 112, 111, 99, 104]), c2])
def c7 : V := (.ifc 222 c6)
def c8 : V := (.tup [(.int .u64 0), c7])
def c9 : V := (.str [116, 101, 110, 97, 110, 116, 32, 51, 32, 110, 111, 119, 32, 53, 32, 101, 112, 111, 99, 104, 32, 48])
def c10 : V := (.agg [(.int .u64 3), (.int .u64 5), (.int .u64 0), (.int .u64 0), (.int .u64 0), (.int .u64 0), (.int .u64 0), (.int .u64 0), (.int .u64 0), (.int .u64 0)])
def c11 : V := (.tup [(.str [116, 101, 110, 97, 110, 116]), c10, (.int .i64 3)])
def c12 : V := (.str [108, 105, 109, 105, 116, 115, 32, 49, 48, 32, 49, 32, 50, 32, 53, 32, 49, 32, 49, 32, 52, 32, 48, 32, 49])
def c13 : V := (.agg [(.int .u64 10), (.int .u64 1), (.int .u64 2), (.int .u64 5), (.int .u64 1), (.int .u64 1), (.int .u64 4), (.int .u64 0), (.int .u64 1), (.int .u64 0)])
def c14 : V := (.tup [(.str [108, 105, 109, 105, 116, 115]), c13, (.int .i64 9)])
def c15 : V := (.agg [(.int .u64 2), (.int .u64 8), (.int .u64 0), (.int .u64 0), (.int .u64 0), (.int .u64 0), (.int .u64 0), (.int .u64 0), (.int .u64 0), (.int .u64 0)])
def c16 : V := (.tup [(.str [99, 97, 112, 115]), c15, (.int .i64 2)])
def c17 : V := (.str [111, 119, 110, 32, 49, 48, 32, 48, 32, 53])
def c18 : V := (.agg [(.int .u64 10), (.int .u64 0), (.int .u64 5), (.int .u64 0), (.int .u64 0), (.int .u64 0), (.int .u64 0), (.int .u64 0), (.int .u64 0), (.int .u64 0)])
def c19 : V := (.tup [(.str [111, 119, 110]), c18, (.int .i64 3)])
def c20 : V := (.str [116, 97, 108, 108, 121, 32, 48, 32, 48, 32, 48])
def c21 : V := (.agg (rep 10 [(.int .u64 0)]))
def c22 : V := (.tup [(.str [116, 97, 108, 108, 121]), c21, (.int .i64 3)])
def c23 : V := (.agg [(.int .i64 10), (.int .i64 1), (.int .i64 2), (.int .i64 10), (.int .i64 0), (.int .u64 5)])
def c24 : V := (.str [111, 119, 110, 32, 49, 48, 32, 48, 32, 53, 10])
def c25 : V := (.agg [(.int .u32 3), (.int .u32 0), (.int .u64 5), (.bool true), (.int .i64 10), (.int .i64 1), (.int .i64 2), (.int .i64 5), (.int .i64 1), (.int .i64 1), (.int .i64 4), (.int .i64 0), (.int .i64 1), (.int .i64 2), (.int .i64 8), (.int .i64 10), (.int .i64 0), (.int .u64 5), .nils, .nils, .nils, (.int .u64 0), (.int .u64 0), (.int .u64 0)])
def c26 : V := (.str [116, 101, 110, 97, 110, 116, 32, 51, 32, 110, 111, 119, 32, 53, 32, 101, 112, 111, 99, 104, 32, 48, 10, 108, 105, 109, 105, 116, 115, 32, 49, 48, 32, 49, 32, 50, 32, 53, 32, 49, 32, 49, 32, 52, 32, 48, 32, 49, 10, 99, 97, 112, 115, 32, 50, 32, 56, 10, 111, 119, 110, 32, 49, 48, 32, 48, 32, 53, 10, 116, 97, 108, 108, 121, 32, 48, 32, 48, 32, 48, 10])
def c27 : V := (.tup [c26, (.int .i64 0)])
def c28 : V := (.tup [c25, (.int .i64 0)])
def c29 : V := (.agg [(.int .i64 10), (.int .i64 1), (.int .i64 2), (.int .i64 9), (.int .i64 1), (.int .u64 18446744073709551615)])
def c30 : V := (.agg [(.int .i64 5), (.int .i64 1), (.int .i64 1), (.int .i64 5), (.int .i64 0), (.int .u64 7)])
def c31 : V := (.agg [(.int .i64 5), (.int .i64 1), (.int .i64 1), (.int .i64 0), (.int .i64 0), (.int .u64 0)])
def c32 : V := (.agg [(.int .i64 4), (.int .i64 0), (.int .i64 1), (.int .i64 4), (.int .i64 0), (.int .u64 0)])
def c33 : V := (.str [49, 56, 52, 52, 54, 55, 52, 52, 48, 55, 51, 55, 48, 57, 53, 53, 49, 54, 49, 53])
def c34 : V := (.str [111, 119, 110, 32, 57, 32, 49, 32, 49, 56, 52, 52, 54, 55, 52, 52, 48, 55, 51, 55, 48, 57, 53, 53, 49, 54, 49, 53, 10])
def c35 : V := (.str [52, 50, 57, 52, 57, 54, 55, 50, 57, 53])
def c36 : V := (.str [117, 115, 101, 114, 32, 52, 50, 57, 52, 57, 54, 55, 50, 57, 53])
def c37 : V := (.str [117, 115, 101, 114, 32, 52, 50, 57, 52, 57, 54, 55, 50, 57, 53, 32, 53, 32, 48, 32, 55, 10])
def c38 : V := (.str [117, 115, 101, 114, 32, 48, 32, 48, 32, 48, 32, 48, 10])
def c39 : V := (.str [101, 110, 100, 32, 54, 53, 53, 51, 53, 32, 52, 32, 48, 32, 48, 10])
def c40 : V := (.str [116, 101, 110, 97, 110, 116, 32, 51, 32, 110, 111, 119, 32, 49, 56, 52, 52, 54, 55, 52, 52, 48, 55, 51, 55, 48, 57, 53, 53, 49, 54, 49, 53, 32, 101, 112, 111, 99, 104, 32, 48, 10, 108, 105, 109, 105, 116, 115, 32, 49, 48, 32, 49, 32, 50, 32, 53, 32, 49, 32, 49, 32, 52, 32, 48, 32, 49, 10, 99, 97, 112, 115, 32, 50, 32, 56, 10, 111, 119, 110, 32, 57, 32, 49, 32, 49, 56, 52, 52, 54, 55, 52, 52, 48, 55, 51, 55, 48, 57, 53, 53, 49, 54, 49, 53, 10, 117, 115, 101, 114, 32, 52, 50, 57, 52, 57, 54, 55, 50, 57, 53, 32, 53, 32, 48, 32, 55, 10, 117, 115, 101, 114, 32, 48, 32, 48, 32, 48, 32, 48, 10, 101, 110, 100, 32, 54, 53, 53, 51, 53, 32, 52, 32, 48, 32, 48, 10, 114, 101, 118, 111, 107, 101, 100, 32, 48, 32, 52, 50, 57, 52, 57, 54, 55, 50, 57, 53, 10, 116, 97, 108, 108, 121, 32, 49, 56, 52, 52, 54, 55, 52, 52, 48, 55, 51, 55, 48, 57, 53, 53, 49, 54, 49, 53, 32, 51, 32, 49, 56, 52, 52, 54, 55, 52, 52, 48, 55, 51, 55, 48, 57, 53, 53, 49, 54, 49, 53, 10])
def c41 : V := (.isl [(.int .u32 4294967295), (.int .i64 5), (.int .i64 0), (.int .u64 7), (.int .u32 0), (.int .i64 0), (.int .i64 0), (.int .u64 0)] 2 none)
def c42 : V := (.agg [(.int .u32 3), (.int .u32 0), (.int .u64 18446744073709551615), (.bool true), (.int .i64 10), (.int .i64 1), (.int .i64 2), (.int .i64 5), (.int .i64 1), (.int .i64 1), (.int .i64 4), (.int .i64 0), (.int .i64 1), (.int .i64 2), (.int .i64 8), (.int .i64 9), (.int .i64 1), (.int .u64 18446744073709551615), c41, (.isl [(.int .u32 65535), (.int .i64 4), (.int .i64 0), (.int .u64 0)] 1 none), (.isl [(.int .u32 0), (.int .u32 4294967295)] 2 none), (.int .u64 18446744073709551615), (.int .u64 3), (.int .u64 18446744073709551615)])
def c43 : V := (.tup [c42, (.int .i64 0)])
def c44 : V := (.agg [(.int .u32 0), (.int .u32 0), (.int .u64 0), (.bool false), (.int .i64 0), (.int .i64 0), (.int .i64 0), (.int .i64 0), (.int .i64 0), (.int .i64 0), (.int .i64 0), (.int .i64 0), (.int .i64 0), (.int .i64 0), (.int .i64 0), (.int .i64 0), (.int .i64 0), (.int .u64 0), .nils, .nils, .nils, (.int .u64 0), (.int .u64 0), (.int .u64 0)])
def c45 : V := (.str [116, 101, 110, 97, 110, 116, 32, 51, 32, 110, 111, 119, 32, 48, 32, 101, 112, 111, 99, 104, 32, 48])
def c46 : V := (.agg [(.int .u64 3), (.int .u64 0), (.int .u64 0), (.int .u64 0), (.int .u64 0), (.int .u64 0), (.int .u64 0), (.int .u64 0), (.int .u64 0), (.int .u64 0)])
def c47 : V := (.tup [(.str [116, 101, 110, 97, 110, 116]), c46, (.int .i64 3)])
def c48 : V := (.agg [(.int .u32 3), (.int .u32 0), (.int .u64 0), (.bool false), (.int .i64 0), (.int .i64 0), (.int .i64 0), (.int .i64 0), (.int .i64 0), (.int .i64 0), (.int .i64 0), (.int .i64 0), (.int .i64 0), (.int .i64 0), (.int .i64 0), (.int .i64 0), (.int .i64 0), (.int .u64 0), .nils, .nils, .nils, (.int .u64 0), (.int .u64 0), (.int .u64 0)])
def c49 : V := (.str [116, 101, 110, 97, 110, 116, 32, 51, 32, 110, 111, 119, 32, 48, 32, 101, 112, 111, 99, 104, 32, 48, 10])
def c50 : V := (.tup [c49, (.int .i64 0)])
def c51 : V := (.str [117, 115, 101, 114, 32, 49, 32, 53, 32, 48, 32, 53])
def c52 : V := (.agg [(.int .u64 1), (.int .u64 5), (.int .u64 0), (.int .u64 5), (.int .u64 0), (.int .u64 0), (.int .u64 0), (.int .u64 0), (.int .u64 0), (.int .u64 0)])
def c53 : V := (.tup [(.str [117, 115, 101, 114]), c52, (.int .i64 4)])
def c54 : V := (.agg [(.int .u64 0), (.int .u8 0), (.int .u8 0), (.int .u8 0), (.int .u8 0), (.int .u8 0), (.int .u8 0), (.int .u8 0), (.int .u8 0), (.int .u8 0), (.int .u8 0), (.int .u8 0), (.int .u8 0), (.int .u8 0), (.int .u8 0), (.int .u8 0), (.int .u8 0), (.int .u8 0), (.int .u8 0), (.int .u8 0), (.int .u8 0), (.int .u8 0), (.int .u8 0), (.int .u8 0), (.int .u8 0), (.int .u8 0), (.int .u8 0), (.int .u8 0), (.int .u8 0), (.int .u8 0), (.int .u8 0), (.int .u8 0), (.int .u8 0), (.int .u32 0), (.int .u32 0), (.int .u32 0), (.int .u32 0), (.int .u32 0), (.int .u32 0), (.int .u32 0), (.int .u32 0), (.int .u32 0), (.int .u32 0), (.int .u32 0), (.int .u32 0), (.int .u32 0), (.int .u32 0), (.int .u32 0), (.int .u32 0), .nils])
def c55 : V := (.isl [(.int .u32 0), (.int .i64 0), (.bool false), (.int .u32 0), (.int .i64 0), (.bool false), (.int .u32 0), (.int .i64 0), (.bool false), (.int .u32 0), (.int .i64 0), (.bool false), (.int .u32 0), (.int .i64 0), (.bool false), (.int .u32 0), (.int .i64 0), (.bool false), (.int .u32 0), (.int .i64 0), (.bool false), (.int .u32 0), (.int .i64 0), (.bool false), (.int .u32 0), (.int .i64 0), (.bool false), (.int .u32 0), (.int .i64 0), (.bool false), (.int .u32 0), (.int .i64 0), (.bool false), (.int .u32 0), (.int .i64 0), (.bool false), (.int .u32 0), (.int .i64 0), (.bool false), (.int .u32 0), (.int .i64 0), (.bool false), (.int .u32 0), (.int .i64 0), (.bool false), (.int .u32 0), (.int .i64 0), (.bool false)] 16 (some 16))
def c56 : V := (.isl [(.int .u32 0), (.int .i64 0), (.bool false), (.int .u32 0), (.int .i64 0), (.bool false), (.int .u32 0), (.int .i64 0), (.bool false), (.int .u32 0), (.int .i64 0), (.bool false), (.int .u32 0), (.int .i64 0), (.bool false), (.int .u32 0), (.int .i64 0), (.bool false), (.int .u32 0), (.int .i64 0), (.bool false), (.int .u32 0), (.int .i64 0), (.bool false), (.int .u32 0), (.int .i64 0), (.bool false), (.int .u32 0), (.int .i64 0), (.bool false), (.int .u32 0), (.int .i64 0), (.bool false), (.int .u32 0), (.int .i64 0), (.bool false), (.int .u32 0), (.int .i64 0), (.bool false), (.int .u32 0), (.int .i64 0), (.bool false), (.int .u32 0), (.int .i64 0), (.bool false), (.int .u32 0), (.int .i64 0), (.bool false)] 16 none)
def c57 : V := (.agg [(.isl [(.int .i64 (-1)), (.int .i64 (-1))] 2 none), (.isl [(.int .i64 (-1)), (.int .i64 (-1))] 2 none), (.int .i64 (-1)), (.int .i64 (-1))])
def c58 : V := (.isl [(.int .i64 0), (.int .i64 0), (.int .i64 0), (.int .i64 0), (.int .i64 0), (.int .u64 0), (.int .i64 0), (.int .i64 0), (.int .i64 0), (.int .i64 0), (.int .i64 0), (.int .u64 0)] 2 none)
def c59 : V := (.agg [(.int .i64 2), (.isl [(.int .u32 0), (.int .u32 0)] 2 none), c58, (.isl [(.int .i64 1), (.int .i64 (-1))] 2 none), (.isl [(.bool false), (.bool false)] 2 none), (.int .i64 0), c56, (.isl [(.int .i64 (-1)), (.int .i64 (-1))] 2 none), (.isl [(.int .i64 (-1)), (.int .i64 (-1))] 2 none), (.int .i64 (-1)), (.int .i64 (-1))])
def c60 : V := (.isl (rep 8 [(.int .i64 (-1))]) 8 none)
def c61 : V := (.agg [c60, c60, (.int .i64 (-1)), (.int .i64 (-1))])
def c62 : V := (.isl (rep 8 [(.int .u32 0)]) 8 none)
def c63 : V := (.isl [(.int .i64 0), (.int .i64 0), (.int .i64 0), (.int .i64 0), (.int .i64 0), (.int .u64 0), (.int .i64 0), (.int .i64 0), (.int .i64 0), (.int .i64 0), (.int .i64 0), (.int .u64 0), (.int .i64 0), (.int .i64 0), (.int .i64 0), (.int .i64 0), (.int .i64 0), (.int .u64 0), (.int .i64 0), (.int .i64 0), (.int .i64 0), (.int .i64 0), (.int .i64 0), (.int .u64 0), (.int .i64 0), (.int .i64 0), (.int .i64 0), (.int .i64 0), (.int .i64 0), (.int .u64 0), (.int .i64 0), (.int .i64 0), (.int .i64 0), (.int .i64 0), (.int .i64 0), (.int .u64 0), (.int .i64 0), (.int .i64 0), (.int .i64 0), (.int .i64 0), (.int .i64 0), (.int .u64 0), (.int .i64 0), (.int .i64 0), (.int .i64 0), (.int .i64 0), (.int .i64 0), (.int .u64 0)] 8 none)
def c64 : V := (.isl [(.int .i64 1), (.int .i64 2), (.int .i64 3), (.int .i64 4), (.int .i64 5), (.int .i64 6), (.int .i64 7), (.int .i64 (-1))] 8 none)
def c65 : V := (.isl (rep 8 [(.bool false)]) 8 none)
def c66 : V := (.agg [(.int .i64 8), c62, c63, c64, c65, (.int .i64 0), c56, c60, c60, (.int .i64 (-1)), (.int .i64 (-1))])
def c67 : V := (.agg [(.int .u32 3), (.int .i64 10), (.int .i64 1), (.int .i64 2), (.int .i64 5), (.int .i64 1), (.int .i64 1), (.int .i64 4), (.int .i64 0), (.int .i64 1), (.int .i64 10), (.int .i64 1), (.int .i64 2), (.int .i64 10), (.int .i64 0), (.int .u64 5), (.int .i64 2), (.isl [(.int .u32 0), (.int .u32 0)] 2 none), c58, (.isl [(.int .i64 1), (.int .i64 (-1))] 2 none), (.isl [(.bool false), (.bool false)] 2 none), (.int .i64 0), c56, (.isl [(.int .i64 (-1)), (.int .i64 (-1))] 2 none), (.isl [(.int .i64 (-1)), (.int .i64 (-1))] 2 none), (.int .i64 (-1)), (.int .i64 (-1)), (.int .i64 8), c62, c63, c64, c65, (.int .i64 0), c56, c60, c60, (.int .i64 (-1)), (.int .i64 (-1)), .nils, (.int .u64 0), (.int .u64 0), (.int .u64 0)])
def c68 : V := (.isl [(.int .u32 3), (.int .i64 10), (.int .i64 1), (.int .i64 2), (.int .i64 5), (.int .i64 1), (.int .i64 1), (.int .i64 4), (.int .i64 0), (.int .i64 1), (.int .i64 10), (.int .i64 1), (.int .i64 2), (.int .i64 10), (.int .i64 0), (.int .u64 5), (.int .i64 2), (.isl [(.int .u32 0), (.int .u32 0)] 2 none), c58, (.isl [(.int .i64 1), (.int .i64 (-1))] 2 none), (.isl [(.bool false), (.bool false)] 2 none), (.int .i64 0), c56, (.isl [(.int .i64 (-1)), (.int .i64 (-1))] 2 none), (.isl [(.int .i64 (-1)), (.int .i64 (-1))] 2 none), (.int .i64 (-1)), (.int .i64 (-1)), (.int .i64 8), c62, c63, c64, c65, (.int .i64 0), c56, c60, c60, (.int .i64 (-1)), (.int .i64 (-1)), .nils, (.int .u64 0), (.int .u64 0), (.int .u64 0)] 1 none)
def c69 : V := (.agg [(.int .u64 5), (.int .u8 0), (.int .u8 0), (.int .u8 0), (.int .u8 0), (.int .u8 0), (.int .u8 0), (.int .u8 0), (.int .u8 0), (.int .u8 0), (.int .u8 0), (.int .u8 0), (.int .u8 0), (.int .u8 0), (.int .u8 0), (.int .u8 0), (.int .u8 0), (.int .u8 0), (.int .u8 0), (.int .u8 0), (.int .u8 0), (.int .u8 0), (.int .u8 0), (.int .u8 0), (.int .u8 0), (.int .u8 0), (.int .u8 0), (.int .u8 0), (.int .u8 0), (.int .u8 0), (.int .u8 0), (.int .u8 0), (.int .u8 0), (.int .u32 0), (.int .u32 0), (.int .u32 0), (.int .u32 0), (.int .u32 0), (.int .u32 0), (.int .u32 0), (.int .u32 0), (.int .u32 0), (.int .u32 0), (.int .u32 0), (.int .u32 0), (.int .u32 0), (.int .u32 0), (.int .u32 0), (.int .u32 0), c68])
def ma0 : List V := [(.str [51]), (.int .i64 10), (.int .i64 64)]
def mr0 : V := (.tup [(.int .u64 3), .nili])
theorem mrun0 : isRes ((CFn W noMemo 2000).f 69 ma0 h0) mr0 = true := by kernel_rfl
def mt0 : MT := withMemo 69 ma0 mr0 (noMemo)
theorem mok0 : MemoOK vp mt0 := memo_run (fn := v69) hW noMemo_ok rfl rfl (by kernel_rfl) mrun0
def ma1 : List V := [(.str [110, 111, 119]), (.int .i64 10), (.int .i64 64)]
def mr1 : V := c5
theorem mrun1 : isRes ((CFn W mt0 2000).f 69 ma1 h0) mr1 = true := by kernel_rfl
def mt1 : MT := withMemo 69 ma1 mr1 (mt0)
theorem mok1 : MemoOK vp mt1 := memo_run (fn := v69) hW mok0 rfl rfl (by kernel_rfl) mrun1
def ma2 : List V := [(.str [53]), (.int .i64 10), (.int .i64 64)]
def mr2 : V := (.tup [(.int .u64 5), .nili])
theorem mrun2 : isRes ((CFn W mt1 2000).f 69 ma2 h0) mr2 = true := by kernel_rfl
def mt2 : MT := withMemo 69 ma2 mr2 (mt1)
theorem mok2 : MemoOK vp mt2 := memo_run (fn := v69) hW mok1 rfl rfl (by kernel_rfl) mrun2
def ma3 : List V := [(.str [101, 112, 111, 99, 104]), (.int .i64 10), (.int .i64 64)]
def mr3 : V := c8
theorem mrun3 : isRes ((CFn W mt2 2000).f 69 ma3 h0) mr3 = true := by kernel_rfl
def mt3 : MT := withMemo 69 ma3 mr3 (mt2)
theorem mok3 : MemoOK vp mt3 := memo_run (fn := v69) hW mok2 rfl rfl (by kernel_rfl) mrun3
def ma4 : List V := [(.str [48]), (.int .i64 10), (.int .i64 64)]
def mr4 : V := (.tup [(.int .u64 0), .nili])
theorem mrun4 : isRes ((CFn W mt3 2000).f 69 ma4 h0) mr4 = true := by kernel_rfl
def mt4 : MT := withMemo 69 ma4 mr4 (mt3)
theorem mok4 : MemoOK vp mt4 := memo_run (fn := v69) hW mok3 rfl rfl (by kernel_rfl) mrun4
def ma5 : List V := [c9]
def mr5 : V := c11
theorem mrun5 : isRes ((CFn W mt4 2000).f 48 ma5 h0) mr5 = true := by kernel_rfl
def mt5 : MT := withMemo 48 ma5 mr5 (mt4)
theorem mok5 : MemoOK vp mt5 := memo_run (fn := v48) hW mok4 rfl rfl (by kernel_rfl) mrun5
def ma6 : List V := [(.str [49, 48]), (.int .i64 10), (.int .i64 64)]
def mr6 : V := (.tup [(.int .u64 10), .nili])
theorem mrun6 : isRes ((CFn W mt5 2000).f 69 ma6 h0) mr6 = true := by kernel_rfl
def mt6 : MT := withMemo 69 ma6 mr6 (mt5)
theorem mok6 : MemoOK vp mt6 := memo_run (fn := v69) hW mok5 rfl rfl (by kernel_rfl) mrun6
def ma7 : List V := [(.str [49]), (.int .i64 10), (.int .i64 64)]
def mr7 : V := (.tup [(.int .u64 1), .nili])
theorem mrun7 : isRes ((CFn W mt6 2000).f 69 ma7 h0) mr7 = true := by kernel_rfl
def mt7 : MT := withMemo 69 ma7 mr7 (mt6)
theorem mok7 : MemoOK vp mt7 := memo_run (fn := v69) hW mok6 rfl rfl (by kernel_rfl) mrun7
def ma8 : List V := [(.str [50]), (.int .i64 10), (.int .i64 64)]
def mr8 : V := (.tup [(.int .u64 2), .nili])
theorem mrun8 : isRes ((CFn W mt7 2000).f 69 ma8 h0) mr8 = true := by kernel_rfl
def mt8 : MT := withMemo 69 ma8 mr8 (mt7)
theorem mok8 : MemoOK vp mt8 := memo_run (fn := v69) hW mok7 rfl rfl (by kernel_rfl) mrun8
def ma9 : List V := [(.str [52]), (.int .i64 10), (.int .i64 64)]
def mr9 : V := (.tup [(.int .u64 4), .nili])
theorem mrun9 : isRes ((CFn W mt8 2000).f 69 ma9 h0) mr9 = true := by kernel_rfl
def mt9 : MT := withMemo 69 ma9 mr9 (mt8)
theorem mok9 : MemoOK vp mt9 := memo_run (fn := v69) hW mok8 rfl rfl (by kernel_rfl) mrun9
def ma10 : List V := [c12]
def mr10 : V := c14
theorem mrun10 : isRes ((CFn W mt9 2000).f 48 ma10 h0) mr10 = true := by kernel_rfl
def mt10 : MT := withMemo 48 ma10 mr10 (mt9)
theorem mok10 : MemoOK vp mt10 := memo_run (fn := v48) hW mok9 rfl rfl (by kernel_rfl) mrun10
def ma11 : List V := [(.str [99, 97, 112, 115, 32, 50, 32, 56])]
def mr11 : V := c16
theorem mrun11 : isRes ((CFn W mt10 2000).f 48 ma11 h0) mr11 = true := by kernel_rfl
def mt11 : MT := withMemo 48 ma11 mr11 (mt10)
theorem mok11 : MemoOK vp mt11 := memo_run (fn := v48) hW mok10 rfl rfl (by kernel_rfl) mrun11
def ma12 : List V := [c17]
def mr12 : V := c19
theorem mrun12 : isRes ((CFn W mt11 2000).f 48 ma12 h0) mr12 = true := by kernel_rfl
def mt12 : MT := withMemo 48 ma12 mr12 (mt11)
theorem mok12 : MemoOK vp mt12 := memo_run (fn := v48) hW mok11 rfl rfl (by kernel_rfl) mrun12
def ma13 : List V := [c20]
def mr13 : V := c22
theorem mrun13 : isRes ((CFn W mt12 2000).f 48 ma13 h0) mr13 = true := by kernel_rfl
def mt13 : MT := withMemo 48 ma13 mr13 (mt12)
theorem mok13 : MemoOK vp mt13 := memo_run (fn := v48) hW mok12 rfl rfl (by kernel_rfl) mrun13
def ma14 : List V := [c23]
def mr14 : V := (.int .i64 0)
theorem mrun14 : isRes ((CFn W mt13 2000).f 22 ma14 h0) mr14 = true := by kernel_rfl
def mt14 : MT := withMemo 22 ma14 mr14 (mt13)
theorem mok14 : MemoOK vp mt14 := memo_run (fn := v22) hW mok13 rfl rfl (by kernel_rfl) mrun14
def ma15 : List V := [(.str [111, 119, 110]), (.agg [(.int .i64 10), (.int .i64 0), (.int .u64 5)])]
def mr15 : V := c24
theorem mrun15 : isRes ((CFn W mt14 2000).f 40 ma15 h0) mr15 = true := by kernel_rfl
def mt15 : MT := withMemo 40 ma15 mr15 (mt14)
theorem mok15 : MemoOK vp mt15 := memo_run (fn := v40) hW mok14 rfl rfl (by kernel_rfl) mrun15
def ma16 : List V := [c25]
def mr16 : V := c27
theorem mrun16 : isRes ((CFn W mt15 2000).f 4 ma16 h0) mr16 = true := by kernel_rfl
def mt16 : MT := withMemo 4 ma16 mr16 (mt15)
theorem mok16 : MemoOK vp mt16 := memo_run (fn := v4) hW mok15 rfl rfl (by kernel_rfl) mrun16
def ma17 : List V := [c26]
def mr17 : V := c28
theorem mrun17 : isRes ((CFn W mt16 2000).f 6 ma17 h0) mr17 = true := by kernel_rfl
def mt17 : MT := withMemo 6 ma17 mr17 (mt16)
theorem mok17 : MemoOK vp mt17 := memo_run (fn := v6) hW mok16 rfl rfl (by kernel_rfl) mrun17
def ma18 : List V := [c29]
def mr18 : V := (.int .i64 0)
theorem mrun18 : isRes ((CFn W mt17 2000).f 22 ma18 h0) mr18 = true := by kernel_rfl
def mt18 : MT := withMemo 22 ma18 mr18 (mt17)
theorem mok18 : MemoOK vp mt18 := memo_run (fn := v22) hW mok17 rfl rfl (by kernel_rfl) mrun18
def ma19 : List V := [c30]
def mr19 : V := (.int .i64 0)
theorem mrun19 : isRes ((CFn W mt18 2000).f 22 ma19 h0) mr19 = true := by kernel_rfl
def mt19 : MT := withMemo 22 ma19 mr19 (mt18)
theorem mok19 : MemoOK vp mt19 := memo_run (fn := v22) hW mok18 rfl rfl (by kernel_rfl) mrun19
def ma20 : List V := [c31]
def mr20 : V := (.int .i64 0)
theorem mrun20 : isRes ((CFn W mt19 2000).f 22 ma20 h0) mr20 = true := by kernel_rfl
def mt20 : MT := withMemo 22 ma20 mr20 (mt19)
theorem mok20 : MemoOK vp mt20 := memo_run (fn := v22) hW mok19 rfl rfl (by kernel_rfl) mrun20
def ma21 : List V := [c32]
def mr21 : V := (.int .i64 0)
theorem mrun21 : isRes ((CFn W mt20 2000).f 22 ma21 h0) mr21 = true := by kernel_rfl
def mt21 : MT := withMemo 22 ma21 mr21 (mt20)
theorem mok21 : MemoOK vp mt21 := memo_run (fn := v22) hW mok20 rfl rfl (by kernel_rfl) mrun21
def ma22 : List V := [(.int .u64 18446744073709551615), (.int .i64 10)]
def mr22 : V := c33
theorem mrun22 : isRes ((CFn W mt21 2000).f 36 ma22 h0) mr22 = true := by kernel_rfl
def mt22 : MT := withMemo 36 ma22 mr22 (mt21)
theorem mok22 : MemoOK vp mt22 := memo_run (fn := v36) hW mok21 rfl rfl (by kernel_rfl) mrun22
def ma23 : List V := [(.str [111, 119, 110]), (.agg [(.int .i64 9), (.int .i64 1), (.int .u64 18446744073709551615)])]
def mr23 : V := c34
theorem mrun23 : isRes ((CFn W mt22 2000).f 40 ma23 h0) mr23 = true := by kernel_rfl
def mt23 : MT := withMemo 40 ma23 mr23 (mt22)
theorem mok23 : MemoOK vp mt23 := memo_run (fn := v40) hW mok22 rfl rfl (by kernel_rfl) mrun23
def ma24 : List V := [(.int .u64 4294967295), (.int .i64 10)]
def mr24 : V := c35
theorem mrun24 : isRes ((CFn W mt23 2000).f 36 ma24 h0) mr24 = true := by kernel_rfl
def mt24 : MT := withMemo 36 ma24 mr24 (mt23)
theorem mok24 : MemoOK vp mt24 := memo_run (fn := v36) hW mok23 rfl rfl (by kernel_rfl) mrun24
def ma25 : List V := [c36, (.agg [(.int .i64 5), (.int .i64 0), (.int .u64 7)])]
def mr25 : V := c37
theorem mrun25 : isRes ((CFn W mt24 2000).f 40 ma25 h0) mr25 = true := by kernel_rfl
def mt25 : MT := withMemo 40 ma25 mr25 (mt24)
theorem mok25 : MemoOK vp mt25 := memo_run (fn := v40) hW mok24 rfl rfl (by kernel_rfl) mrun25
def ma26 : List V := [(.str [117, 115, 101, 114, 32, 48]), (.agg [(.int .i64 0), (.int .i64 0), (.int .u64 0)])]
def mr26 : V := c38
theorem mrun26 : isRes ((CFn W mt25 2000).f 40 ma26 h0) mr26 = true := by kernel_rfl
def mt26 : MT := withMemo 40 ma26 mr26 (mt25)
theorem mok26 : MemoOK vp mt26 := memo_run (fn := v40) hW mok25 rfl rfl (by kernel_rfl) mrun26
def ma27 : List V := [(.int .u64 65535), (.int .i64 10)]
def mr27 : V := (.str [54, 53, 53, 51, 53])
theorem mrun27 : isRes ((CFn W mt26 2000).f 36 ma27 h0) mr27 = true := by kernel_rfl
def mt27 : MT := withMemo 36 ma27 mr27 (mt26)
theorem mok27 : MemoOK vp mt27 := memo_run (fn := v36) hW mok26 rfl rfl (by kernel_rfl) mrun27
def ma28 : List V := [(.str [101, 110, 100, 32, 54, 53, 53, 51, 53]), (.agg [(.int .i64 4), (.int .i64 0), (.int .u64 0)])]
def mr28 : V := c39
theorem mrun28 : isRes ((CFn W mt27 2000).f 40 ma28 h0) mr28 = true := by kernel_rfl
def mt28 : MT := withMemo 40 ma28 mr28 (mt27)
theorem mok28 : MemoOK vp mt28 := memo_run (fn := v40) hW mok27 rfl rfl (by kernel_rfl) mrun28
def ma29 : List V := [c33, (.int .i64 10), (.int .i64 64)]
def mr29 : V := (.tup [(.int .u64 18446744073709551615), .nili])
theorem mrun29 : isRes ((CFn W mt28 2000).f 69 ma29 h0) mr29 = true := by kernel_rfl
def mt29 : MT := withMemo 69 ma29 mr29 (mt28)
theorem mok29 : MemoOK vp mt29 := memo_run (fn := v69) hW mok28 rfl rfl (by kernel_rfl) mrun29
def ma30 : List V := [c35, (.int .i64 10), (.int .i64 64)]
def mr30 : V := (.tup [(.int .u64 4294967295), .nili])
theorem mrun30 : isRes ((CFn W mt29 2000).f 69 ma30 h0) mr30 = true := by kernel_rfl
def mt30 : MT := withMemo 69 ma30 mr30 (mt29)
theorem mok30 : MemoOK vp mt30 := memo_run (fn := v69) hW mok29 rfl rfl (by kernel_rfl) mrun30
def ma31 : List V := [c40]
def mr31 : V := c43
theorem mrun31 : isRes ((CFn W mt30 2000).f 6 ma31 h0) mr31 = true := by kernel_rfl
def mt31 : MT := withMemo 6 ma31 mr31 (mt30)
theorem mok31 : MemoOK vp mt31 := memo_run (fn := v6) hW mok30 rfl rfl (by kernel_rfl) mrun31
def ma32 : List V := [c44, c44]
def mr32 : V := (.bool true)
theorem mrun32 : isRes ((CFn W mt31 2000).f 7 ma32 h0) mr32 = true := by kernel_rfl
def mt32 : MT := withMemo 7 ma32 mr32 (mt31)
theorem mok32 : MemoOK vp mt32 := memo_run (fn := v7) hW mok31 rfl rfl (by kernel_rfl) mrun32
def ma33 : List V := [c45]
def mr33 : V := c47
theorem mrun33 : isRes ((CFn W mt32 2000).f 48 ma33 h0) mr33 = true := by kernel_rfl
def mt33 : MT := withMemo 48 ma33 mr33 (mt32)
theorem mok33 : MemoOK vp mt33 := memo_run (fn := v48) hW mok32 rfl rfl (by kernel_rfl) mrun33
def ma34 : List V := [c48]
def mr34 : V := c50
theorem mrun34 : isRes ((CFn W mt33 2000).f 4 ma34 h0) mr34 = true := by kernel_rfl
def mt34 : MT := withMemo 4 ma34 mr34 (mt33)
theorem mok34 : MemoOK vp mt34 := memo_run (fn := v4) hW mok33 rfl rfl (by kernel_rfl) mrun34
def ma35 : List V := [c51]
def mr35 : V := c53
theorem mrun35 : isRes ((CFn W mt34 2000).f 48 ma35 h0) mr35 = true := by kernel_rfl
def mt35 : MT := withMemo 48 ma35 mr35 (mt34)
theorem mok35 : MemoOK vp mt35 := memo_run (fn := v48) hW mok34 rfl rfl (by kernel_rfl) mrun35
def ma36 : List V := [c54]
def mr36 : V := (.int .i64 0)
theorem mrun36 : isRes ((CFn W mt35 2000).f 29 ma36 h0) mr36 = true := by kernel_rfl
def mt36 : MT := withMemo 29 ma36 mr36 (mt35)
theorem mok36 : MemoOK vp mt36 := memo_run (fn := v29) hW mok35 rfl rfl (by kernel_rfl) mrun36
def ma37 : List V := [c54]
def mr37 : V := (.int .i64 0)
theorem mrun37 : isRes ((CFn W mt36 2000).f 51 ma37 h0) mr37 = true := by kernel_rfl
def mt37 : MT := withMemo 51 ma37 mr37 (mt36)
theorem mok37 : MemoOK vp mt37 := memo_run (fn := v51) hW mok36 rfl rfl (by kernel_rfl) mrun37
def ma38 : List V := [.nils, (.int .u32 3)]
def mr38 : V := (.tup [(.int .i64 0), (.int .i64 6)])
theorem mrun38 : isRes ((CFn W mt37 2000).f 53 ma38 h0) mr38 = true := by kernel_rfl
def mt38 : MT := withMemo 53 ma38 mr38 (mt37)
theorem mok38 : MemoOK vp mt38 := memo_run (fn := v53) hW mok37 rfl rfl (by kernel_rfl) mrun38
def ma39 : List V := [c55]
def mr39 : V := (.int .i64 0)
theorem mrun39 : isRes ((CFn W mt38 2000).f 81 ma39 h0) mr39 = true := by kernel_rfl
def mt39 : MT := withMemo 81 ma39 mr39 (mt38)
theorem mok39 : MemoOK vp mt39 := memo_run (fn := v81) hW mok38 rfl rfl (by kernel_rfl) mrun39
def ma40 : List V := [c56]
def mr40 : V := (.int .i64 0)
theorem mrun40 : isRes ((CFn W mt39 2000).f 81 ma40 h0) mr40 = true := by kernel_rfl
def mt40 : MT := withMemo 81 ma40 mr40 (mt39)
theorem mok40 : MemoOK vp mt40 := memo_run (fn := v81) hW mok39 rfl rfl (by kernel_rfl) mrun40
def ma41 : List V := [c57]
def mr41 : V := (.tup [.nils, (.int .i64 0)])
theorem mrun41 : isRes ((CFn W mt40 2000).f 62 ma41 h0) mr41 = true := by kernel_rfl
def mt41 : MT := withMemo 62 ma41 mr41 (mt40)
theorem mok41 : MemoOK vp mt41 := memo_run (fn := v62) hW mok40 rfl rfl (by kernel_rfl) mrun41
def ma42 : List V := [c59]
def mr42 : V := (.int .i64 0)
theorem mrun42 : isRes ((CFn W mt41 2000).f 61 ma42 h0) mr42 = true := by kernel_rfl
def mt42 : MT := withMemo 61 ma42 mr42 (mt41)
theorem mok42 : MemoOK vp mt42 := memo_run (fn := v61) hW mok41 rfl rfl (by kernel_rfl) mrun42
def ma43 : List V := [c61]
def mr43 : V := (.tup [.nils, (.int .i64 0)])
theorem mrun43 : isRes ((CFn W mt42 2000).f 62 ma43 h0) mr43 = true := by kernel_rfl
def mt43 : MT := withMemo 62 ma43 mr43 (mt42)
theorem mok43 : MemoOK vp mt43 := memo_run (fn := v62) hW mok42 rfl rfl (by kernel_rfl) mrun43
def ma44 : List V := [c66]
def mr44 : V := (.int .i64 0)
theorem mrun44 : isRes ((CFn W mt43 2000).f 61 ma44 h0) mr44 = true := by kernel_rfl
def mt44 : MT := withMemo 61 ma44 mr44 (mt43)
theorem mok44 : MemoOK vp mt44 := memo_run (fn := v61) hW mok43 rfl rfl (by kernel_rfl) mrun44
def ma45 : List V := [c67]
def mr45 : V := (.int .i64 0)
theorem mrun45 : isRes ((CFn W mt44 2000).f 72 ma45 h0) mr45 = true := by kernel_rfl
def mt45 : MT := withMemo 72 ma45 mr45 (mt44)
theorem mok45 : MemoOK vp mt45 := memo_run (fn := v72) hW mok44 rfl rfl (by kernel_rfl) mrun45
def ma46 : List V := [c68]
def mr46 : V := (.int .i64 0)
theorem mrun46 : isRes ((CFn W mt45 2000).f 56 ma46 h0) mr46 = true := by kernel_rfl
def mt46 : MT := withMemo 56 ma46 mr46 (mt45)
theorem mok46 : MemoOK vp mt46 := memo_run (fn := v56) hW mok45 rfl rfl (by kernel_rfl) mrun46
def ma47 : List V := [c69]
def mr47 : V := (.int .i64 0)
theorem mrun47 : isRes ((CFn W mt46 2000).f 29 ma47 h0) mr47 = true := by kernel_rfl
def mt47 : MT := withMemo 29 ma47 mr47 (mt46)
theorem mok47 : MemoOK vp mt47 := memo_run (fn := v29) hW mok46 rfl rfl (by kernel_rfl) mrun47
def ma48 : List V := []
def mr48 : V := (.bool true)
theorem mrun48 : isRes ((CFn W mt47 2000).f 13 ma48 h0) mr48 = true := by kernel_rfl
def mt48 : MT := withMemo 13 ma48 mr48 (mt47)
theorem mok48 : MemoOK vp mt48 := memo_run (fn := v13) hW mok47 rfl rfl (by kernel_rfl) mrun48
end Go.Proofs.YtpfffhfempgmaabGreatDoor.reportNames
