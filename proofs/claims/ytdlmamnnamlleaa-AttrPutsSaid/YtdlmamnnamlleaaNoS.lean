/- Lists of attributes that are the same. -/
import Derived.Test.YtdlmamnnamlleaaRu7
namespace Go.Proofs.Ytdlmamnnamlleaa
theorem same_trueS {l m : List At} (h : l.map At.kv = m.map At.kv) : sameKV l m = true := by simp [sameKV, h]
end Go.Proofs.Ytdlmamnnamlleaa
