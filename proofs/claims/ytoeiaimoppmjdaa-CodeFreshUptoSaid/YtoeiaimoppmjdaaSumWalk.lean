/- code.Sum: what it computes. -/
import Derived.Test.YtoeiaimoppmjdaaProg
import Derived.WalkKit
import Derived.WalkSpells
import Derived.WalkLawsBesides
import Derived.Below
import Derived.Outline
import Derived.Lib.Hide
import Derived.LoopTactic
import Derived.Deep.QuietTactic
import Derived.BigQuiet
import Derived.BigRegion
import Derived.Laws.Rows
import Derived.KernelRfl
import Derived.Test.YtoeiaimoppmjdaaCrc
namespace Go.Proofs.Ytoeiaimoppmjdaa.Crc
open Go.RowKit
set_option linter.unusedVariables false
set_option linter.unusedSimpArgs false
end Go.Proofs.Ytoeiaimoppmjdaa.Crc
