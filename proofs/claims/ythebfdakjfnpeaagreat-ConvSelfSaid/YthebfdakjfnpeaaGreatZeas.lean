/- What the law ConvSelf of layer 17 comes to, part 19. Conditions: none. -/
import Derived.Test.YthebfdakjfnpeaaGreatZear
section

end
