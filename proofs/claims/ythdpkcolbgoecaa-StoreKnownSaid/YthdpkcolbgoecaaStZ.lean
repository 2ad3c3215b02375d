/- A part of the proof. No conditions of its own beyond those that its theorems name. -/
import Derived.Test.YthdpkcolbgoecaaStPB
import Derived.Test.YthdpkcolbgoecaaStPA
import Derived.Test.YthdpkcolbgoecaaStPC
import Derived.Test.YthdpkcolbgoecaaSmn
import Derived.Test.YthdpkcolbgoecaaSmo

namespace Pv
open Go Go.Proofs

theorem T26_ok : AllSound Try.prog pvT pvG T26 := trivial
theorem W26_ok : Sound Try.prog pvT pvG 26 W26 := W26_of T26_ok
theorem U26_ok : AllSound Try.prog pvT pvG U26 := ⟨⟨W26_ok, fun a w => Try.call26 a w⟩, trivial⟩
theorem T68_ok : AllSound Try.prog pvT pvG T68 := U26_ok
theorem W68_ok : Sound Try.prog pvT pvG 68 W68 := W68_of T68_ok
theorem U68_ok : AllSound Try.prog pvT pvG U68 := ⟨⟨W68_ok, fun a w => Try.call68 a w⟩, U26_ok⟩
theorem T69_ok : AllSound Try.prog pvT pvG T69 := U68_ok
theorem W69_ok : Sound Try.prog pvT pvG 69 W69 := W69_of T69_ok
theorem U69_ok : AllSound Try.prog pvT pvG U69 := ⟨⟨W69_ok, fun a w => Try.call69 a w⟩, U68_ok⟩
theorem T71_ok : AllSound Try.prog pvT pvG T71 := U69_ok
theorem W71_ok : Sound Try.prog pvT pvG 71 W71 := W71_of T71_ok
theorem U71_ok : AllSound Try.prog pvT pvG U71 := ⟨⟨W71_ok, fun a w => Try.call71 a w⟩, U69_ok⟩
theorem T23_ok : AllSound Try.prog pvT pvG T23 := U71_ok
theorem W23_ok : Sound Try.prog pvT pvG 23 W23 := W23_of T23_ok
theorem U23_ok : AllSound Try.prog pvT pvG U23 := ⟨⟨W23_ok, fun a w => Try.call23 a w⟩, U71_ok⟩
theorem T44_ok : AllSound Try.prog pvT pvG T44 := U23_ok
theorem W44_ok : Sound Try.prog pvT pvG 44 W44 := W44_of T44_ok
theorem U44_ok : AllSound Try.prog pvT pvG U44 := ⟨⟨W44_ok, fun a w => Try.call44 a w⟩, U23_ok⟩
theorem T6_ok : AllSound Try.prog pvT pvG T6 := U44_ok
theorem W6_ok : Sound Try.prog pvT pvG 6 W6 := W6_of T6_ok
theorem U6_ok : AllSound Try.prog pvT pvG U6 := ⟨⟨W6_ok, fun a w => Try.call6 a w⟩, U44_ok⟩
theorem T12_ok : AllSound Try.prog pvT pvG T12 := U6_ok
theorem W12_ok : Sound Try.prog pvT pvG 12 W12 := W12_of T12_ok
theorem U12_ok : AllSound Try.prog pvT pvG U12 := ⟨⟨W12_ok, fun a w => Try.call12 a w⟩, U6_ok⟩
theorem T13_ok : AllSound Try.prog pvT pvG T13 := U12_ok
theorem W13_ok : Sound Try.prog pvT pvG 13 W13 := W13_of T13_ok
theorem U13_ok : AllSound Try.prog pvT pvG U13 := ⟨⟨W13_ok, fun a w => Try.call13 a w⟩, U12_ok⟩
theorem T18_ok : AllSound Try.prog pvT pvG T18 := U13_ok
theorem W18_ok : Sound Try.prog pvT pvG 18 W18 := W18_of T18_ok
theorem U18_ok : AllSound Try.prog pvT pvG U18 := ⟨⟨W18_ok, fun a w => Try.call18 a w⟩, U13_ok⟩
theorem T8_ok : AllSound Try.prog pvT pvG T8 := U18_ok
theorem W8_ok : Sound Try.prog pvT pvG 8 W8 := W8_of T8_ok
theorem U8_ok : AllSound Try.prog pvT pvG U8 := ⟨⟨W8_ok, fun a w => Try.call8 a w⟩, U18_ok⟩
theorem T49_ok : AllSound Try.prog pvT pvG T49 := U8_ok
theorem W49_ok : Sound Try.prog pvT pvG 49 W49 := W49_of T49_ok
theorem U49_ok : AllSound Try.prog pvT pvG U49 := ⟨⟨W49_ok, fun a w => Try.call49 a w⟩, U8_ok⟩
theorem T27_ok : AllSound Try.prog pvT pvG T27 := U49_ok
theorem W27_ok : Sound Try.prog pvT pvG 27 W27 := W27_of T27_ok
theorem U27_ok : AllSound Try.prog pvT pvG U27 := ⟨⟨W27_ok, fun a w => Try.call27 a w⟩, U49_ok⟩
theorem T66_ok : AllSound Try.prog pvT pvG T66 := U27_ok
theorem W66_ok : Sound Try.prog pvT pvG 66 W66 := W66_of T66_ok
theorem U66_ok : AllSound Try.prog pvT pvG U66 := ⟨⟨W66_ok, fun a w => Try.call66 a w⟩, U27_ok⟩
theorem T66d_ok : AllSound Try.prog pvT pvG T66d := U66_ok
theorem W66d_ok : Sound Try.prog pvT pvG 66 W66d := W66d_of T66d_ok
theorem T46_ok : AllSound Try.prog pvT pvG T46 := ⟨⟨W66d_ok, fun a w => Try.call66 a w⟩, U66_ok⟩
theorem W46_ok : Sound Try.prog pvT pvG 46 W46 := W46_of T46_ok
theorem U46_ok : AllSound Try.prog pvT pvG U46 := ⟨⟨W46_ok, fun a w => Try.call46 a w⟩, U66_ok⟩
theorem T67_ok : AllSound Try.prog pvT pvG T67 := U46_ok
theorem W67_ok : Sound Try.prog pvT pvG 67 W67 := W67_of T67_ok
theorem U67_ok : AllSound Try.prog pvT pvG U67 := ⟨⟨W67_ok, fun a w => Try.call67 a w⟩, U46_ok⟩
theorem T70_ok : AllSound Try.prog pvT pvG T70 := U67_ok
theorem W70_ok : Sound Try.prog pvT pvG 70 W70 := W70_of T70_ok
theorem U70_ok : AllSound Try.prog pvT pvG U70 := ⟨⟨W70_ok, fun a w => Try.call70 a w⟩, U67_ok⟩
theorem T47_ok : AllSound Try.prog pvT pvG T47 := U70_ok
theorem W47_ok : Sound Try.prog pvT pvG 47 W47 := W47_of T47_ok
theorem U47_ok : AllSound Try.prog pvT pvG U47 := ⟨⟨W47_ok, fun a w => Try.call47 a w⟩, U70_ok⟩
theorem T48_ok : AllSound Try.prog pvT pvG T48 := U47_ok
theorem W48_ok : Sound Try.prog pvT pvG 48 W48 := W48_of T48_ok
theorem U48_ok : AllSound Try.prog pvT pvG U48 := ⟨⟨W48_ok, fun a w => Try.call48 a w⟩, U47_ok⟩
theorem T52_ok : AllSound Try.prog pvT pvG T52 := U48_ok
theorem W52_ok : Sound Try.prog pvT pvG 52 W52 := W52_of T52_ok
theorem U52_ok : AllSound Try.prog pvT pvG U52 := ⟨⟨W52_ok, fun a w => Try.call52 a w⟩, U48_ok⟩
theorem T54_ok : AllSound Try.prog pvT pvG T54 := U52_ok
theorem W54_ok : Sound Try.prog pvT pvG 54 W54 := W54_of T54_ok
theorem U54_ok : AllSound Try.prog pvT pvG U54 := ⟨⟨W54_ok, fun a w => Try.call54 a w⟩, U52_ok⟩
theorem T55_ok : AllSound Try.prog pvT pvG T55 := U54_ok
theorem W55_ok : Sound Try.prog pvT pvG 55 W55 := W55_of T55_ok
theorem U55_ok : AllSound Try.prog pvT pvG U55 := ⟨⟨W55_ok, fun a w => Try.call55 a w⟩, U54_ok⟩
theorem T56_ok : AllSound Try.prog pvT pvG T56 := U55_ok
theorem W56_ok : Sound Try.prog pvT pvG 56 W56 := W56_of T56_ok
theorem U56_ok : AllSound Try.prog pvT pvG U56 := ⟨⟨W56_ok, fun a w => Try.call56 a w⟩, U55_ok⟩
theorem T50_ok : AllSound Try.prog pvT pvG T50 := U56_ok
theorem W50_ok : Sound Try.prog pvT pvG 50 W50 := W50_of T50_ok
theorem U50_ok : AllSound Try.prog pvT pvG U50 := ⟨⟨W50_ok, fun a w => Try.call50 a w⟩, U56_ok⟩
theorem T51_ok : AllSound Try.prog pvT pvG T51 := U50_ok
theorem W51_ok : Sound Try.prog pvT pvG 51 W51 := W51_of T51_ok
theorem U51_ok : AllSound Try.prog pvT pvG U51 := ⟨⟨W51_ok, fun a w => Try.call51 a w⟩, U50_ok⟩
theorem T35_ok : AllSound Try.prog pvT pvG T35 := U51_ok
theorem W35_ok : Sound Try.prog pvT pvG 35 W35 := W35_of T35_ok
theorem U35_ok : AllSound Try.prog pvT pvG U35 := ⟨⟨W35_ok, fun a w => Try.call35 a w⟩, U51_ok⟩
theorem T25_ok : AllSound Try.prog pvT pvG T25 := U35_ok
theorem W25_ok : Sound Try.prog pvT pvG 25 W25 := W25_of T25_ok
theorem U25_ok : AllSound Try.prog pvT pvG U25 := ⟨⟨W25_ok, fun a w => Try.call25 a w⟩, U35_ok⟩
theorem T24_ok : AllSound Try.prog pvT pvG T24 := U25_ok
theorem W24_ok : Sound Try.prog pvT pvG 24 W24 := W24_of T24_ok
theorem U24_ok : AllSound Try.prog pvT pvG U24 := ⟨⟨W24_ok, fun a w => Try.call24 a w⟩, U25_ok⟩
theorem T29_ok : AllSound Try.prog pvT pvG T29 := U24_ok
theorem W29_ok : Sound Try.prog pvT pvG 29 W29 := W29_of T29_ok
theorem U29_ok : AllSound Try.prog pvT pvG U29 := ⟨⟨W29_ok, fun a w => Try.call29 a w⟩, U24_ok⟩
theorem T34_ok : AllSound Try.prog pvT pvG T34 := U29_ok
theorem W34_ok : Sound Try.prog pvT pvG 34 W34 := W34_of T34_ok
theorem U34_ok : AllSound Try.prog pvT pvG U34 := ⟨⟨W34_ok, fun a w => Try.call34 a w⟩, U29_ok⟩
theorem T22_ok : AllSound Try.prog pvT pvG T22 := U34_ok
theorem W22_ok : Sound Try.prog pvT pvG 22 W22 := W22_of T22_ok
theorem U22_ok : AllSound Try.prog pvT pvG U22 := ⟨⟨W22_ok, fun a w => Try.call22 a w⟩, U34_ok⟩
theorem T31_ok : AllSound Try.prog pvT pvG T31 := U22_ok
theorem W31_ok : Sound Try.prog pvT pvG 31 W31 := W31_of T31_ok
theorem U31_ok : AllSound Try.prog pvT pvG U31 := ⟨⟨W31_ok, fun a w => Try.call31 a w⟩, U22_ok⟩
theorem T65_ok : AllSound Try.prog pvT pvG T65 := U31_ok
theorem W65_ok : Sound Try.prog pvT pvG 65 W65 := W65_of T65_ok
theorem U65_ok : AllSound Try.prog pvT pvG U65 := ⟨⟨W65_ok, fun a w => Try.call65 a w⟩, U31_ok⟩
theorem T45_ok : AllSound Try.prog pvT pvG T45 := U65_ok
theorem W45_ok : Sound Try.prog pvT pvG 45 W45 := W45_of T45_ok
theorem U45_ok : AllSound Try.prog pvT pvG U45 := ⟨⟨W45_ok, fun a w => Try.call45 a w⟩, U65_ok⟩
theorem T21_ok : AllSound Try.prog pvT pvG T21 := U45_ok
theorem W21_ok : Sound Try.prog pvT pvG 21 W21 := W21_of T21_ok
theorem U21_ok : AllSound Try.prog pvT pvG U21 := ⟨⟨W21_ok, fun a w => Try.call21 a w⟩, U45_ok⟩
theorem T20_ok : AllSound Try.prog pvT pvG T20 := U21_ok
theorem W20_ok : Sound Try.prog pvT pvG 20 W20 := W20_of T20_ok
theorem U20_ok : AllSound Try.prog pvT pvG U20 := ⟨⟨W20_ok, fun a w => Try.call20 a w⟩, U21_ok⟩
theorem T32_ok : AllSound Try.prog pvT pvG T32 := U20_ok
theorem W32_ok : Sound Try.prog pvT pvG 32 W32 := W32_of T32_ok
theorem U32_ok : AllSound Try.prog pvT pvG U32 := ⟨⟨W32_ok, fun a w => Try.call32 a w⟩, U20_ok⟩
theorem T28_ok : AllSound Try.prog pvT pvG T28 := U32_ok
theorem W28_ok : Sound Try.prog pvT pvG 28 W28 := W28_of T28_ok
theorem U28_ok : AllSound Try.prog pvT pvG U28 := ⟨⟨W28_ok, fun a w => Try.call28 a w⟩, U32_ok⟩
theorem T37_ok : AllSound Try.prog pvT pvG T37 := U28_ok
theorem W37_ok : Sound Try.prog pvT pvG 37 W37 := W37_of T37_ok
theorem U37_ok : AllSound Try.prog pvT pvG U37 := ⟨⟨W37_ok, fun a w => Try.call37 a w⟩, U28_ok⟩
theorem U30_ok : AllSound Try.prog pvT pvG U30 := ⟨⟨W30_ok, fun a w => Try.call30 a w⟩, U37_ok⟩
theorem U36_ok : AllSound Try.prog pvT pvG U36 := ⟨⟨W36_ok, fun a w => Try.call36 a w⟩, U30_ok⟩
theorem T33_ok : AllSound Try.prog pvT pvG T33 := U36_ok
theorem W33_ok : Sound Try.prog pvT pvG 33 W33 := W33_of T33_ok
theorem U33_ok : AllSound Try.prog pvT pvG U33 := ⟨⟨W33_ok, fun a w => Try.call33 a w⟩, U36_ok⟩
theorem T7_ok : AllSound Try.prog pvT pvG T7 := U33_ok
theorem W7_ok : Sound Try.prog pvT pvG 7 W7 := W7_of T7_ok
theorem U7_ok : AllSound Try.prog pvT pvG U7 := ⟨⟨W7_ok, fun a w => Try.call7 a w⟩, U33_ok⟩
theorem T10_ok : AllSound Try.prog pvT pvG T10 := U7_ok
theorem W10_ok : Sound Try.prog pvT pvG 10 W10 := W10_of T10_ok
theorem U10_ok : AllSound Try.prog pvT pvG U10 := ⟨⟨W10_ok, fun a w => Try.call10 a w⟩, U7_ok⟩
theorem T16_ok : AllSound Try.prog pvT pvG T16 := U10_ok
theorem W16_ok : Sound Try.prog pvT pvG 16 W16 := W16_of T16_ok
theorem U16_ok : AllSound Try.prog pvT pvG U16 := ⟨⟨W16_ok, fun a w => Try.call16 a w⟩, U10_ok⟩
theorem T60_ok : AllSound Try.prog pvT pvG T60 := U16_ok
theorem W60_ok : Sound Try.prog pvT pvG 60 W60 := W60_of T60_ok
theorem U60_ok : AllSound Try.prog pvT pvG U60 := ⟨⟨W60_ok, fun a w => Try.call60 a w⟩, U16_ok⟩
theorem T38_ok : AllSound Try.prog pvT pvG T38 := U60_ok
theorem W38_ok : Sound Try.prog pvT pvG 38 W38 := W38_of T38_ok
theorem U38_ok : AllSound Try.prog pvT pvG U38 := ⟨⟨W38_ok, fun a w => Try.call38 a w⟩, U60_ok⟩
theorem T17_ok : AllSound Try.prog pvT pvG T17 := U38_ok
theorem W17_ok : Sound Try.prog pvT pvG 17 W17 := W17_of T17_ok
theorem U17_ok : AllSound Try.prog pvT pvG U17 := ⟨⟨W17_ok, fun a w => Try.call17 a w⟩, U38_ok⟩
theorem T14_ok : AllSound Try.prog pvT pvG T14 := U17_ok
theorem W14_ok : Sound Try.prog pvT pvG 14 W14 := W14_of T14_ok
theorem U14_ok : AllSound Try.prog pvT pvG U14 := ⟨⟨W14_ok, fun a w => Try.call14 a w⟩, U17_ok⟩
theorem T15_ok : AllSound Try.prog pvT pvG T15 := U14_ok
theorem W15_ok : Sound Try.prog pvT pvG 15 W15 := W15_of T15_ok
theorem U15_ok : AllSound Try.prog pvT pvG U15 := ⟨⟨W15_ok, fun a w => Try.call15 a w⟩, U14_ok⟩
theorem T5_ok : AllSound Try.prog pvT pvG T5 := U15_ok
theorem W5_ok : Sound Try.prog pvT pvG 5 W5 := W5_of T5_ok
theorem U5_ok : AllSound Try.prog pvT pvG U5 := ⟨⟨W5_ok, fun a w => Try.call5 a w⟩, U15_ok⟩
end Pv
